import Derived.Test.YtpdpkanlmhigfaaGreatV1
import Derived.Test.YtpdpkanlmhigfaaGreatHMr
import Derived.Test.YtpdpkanlmhigfaaGreatQ4
import Derived.Test.YtpdpkanlmhigfaaGreatN1
import Derived.Test.YtpdpkanlmhigfaaGreatKO
import Derived.Test.YtpdpkanlmhigfaaGreatKH
import Derived.Test.YtpdpkanlmhigfaaGreatV3
import Derived.OneCell
import Derived.Laws.AppendOwnNone
set_option linter.unusedSimpArgs false
set_option linter.unusedVariables false
/- Plain facts: merges played one by one; every item is a valid assembly. -/


namespace Go.Proofs.YtpdpkanlmhigfaaGreat
open Go.RowKit
def oneL (k : Nat) : List Pl := [⟨0, 0, (k : Int)⟩]
def singL (m : Nat) : List (List Pl) := (List.range m).map oneL
/-- one merge: the two items are tested, then put together -/
noncomputable def stepM (gs : List Gl) (ts : List Ti) (t : Int) (items : List (List Pl)) (e : Mr) : List Pl × Int :=
  if inB e.a 0 ((items.length : Int) - 1) = false then ([], 2) else if inB e.b 0 ((items.length : Int) - 1) = false then ([], 2) else combE gs ts (items[e.a.toNat]?.getD []) (items[e.b.toNat]?.getD []) t e.x e.y
/-- the rest of the merges, from the merge of number i on: the last item; the number of a merge that fails; the code -/
noncomputable def playG (gs : List Gl) (ts : List Ti) (t : Int) : List (List Pl) → List Mr → Nat → List Pl × Int × Int
  | items, [], _ => (items.getLast?.getD [], 0, 0)
  | items, e :: r, i => if (stepM gs ts t items e).2 = 0 then playG gs ts t (items ++ [(stepM gs ts t items e).1]) r (i + 1) else ([], (i : Int), (stepM gs ts t items e).2)
noncomputable def playR (gs : List Gl) (ts : List Ti) (t : Int) (ms : List Mr) : List Pl × Int × Int :=
  if validSetB gs ts = false then ([], 0, 1) else if inB t 1 16 = false then ([], 0, 2) else if 200 < ms.length then ([], 0, 2) else playG gs ts t (singL ts.length) ms 0
section
variable {gs : List Gl} {ts : List Ti} {t : Int} {items : List (List Pl)} {ms : List Mr} {e : Mr} {k i : Nat} {R : List Pl × Int × Int}
theorem playG_end (h : playG gs ts t items (ms.drop k) i = R) (hk : ms.length ≤ k) : (items.getLast?.getD [], 0, 0) = R := by
  rw [← h, List.drop_eq_nil_of_le hk]; rfl
theorem playG_fail {L : List Pl} {c : Int} (h : playG gs ts t items (ms.drop k) k = R) (he : ms[k]? = some e) (hs : stepM gs ts t items e = (L, c)) (hc : ¬ c = 0) : ([], (k : Int), c) = R := by
  obtain ⟨hk, rfl⟩ := List.getElem?_eq_some_iff.1 he
  rw [← h, List.drop_eq_getElem_cons hk]
  show _ = (if (stepM gs ts t items ms[k]).2 = 0 then _ else _)
  rw [hs, if_neg hc]
theorem playG_next {L : List Pl} (h : playG gs ts t items (ms.drop k) k = R) (he : ms[k]? = some e) (hs : stepM gs ts t items e = (L, 0)) : playG gs ts t (items ++ [L]) (ms.drop (k + 1)) (k + 1) = R := by
  obtain ⟨hk, rfl⟩ := List.getElem?_eq_some_iff.1 he
  rw [← h, List.drop_eq_getElem_cons hk]
  show _ = (if (stepM gs ts t items ms[k]).2 = 0 then playG gs ts t (items ++ [(stepM gs ts t items ms[k]).1]) (ms.drop (k + 1)) (k + 1) else _)
  rw [hs, if_pos rfl]
theorem stepM_a (h : inB e.a 0 ((items.length : Int) - 1) = false) : stepM gs ts t items e = ([], 2) := by unfold stepM; rw [if_pos h]
theorem stepM_b (h : inB e.b 0 ((items.length : Int) - 1) = false) : stepM gs ts t items e = ([], 2) := by
  unfold stepM
  split
  · rfl
  · rfl
theorem stepM_c {a b : Nat} {xs ys : List Pl} (ha : e.a = a) (hb : e.b = b) (hxa : items[a]? = some xs) (hxb : items[b]? = some ys) : stepM gs ts t items e = combE gs ts xs ys t e.x e.y := by
  have h1 := (List.getElem?_eq_some_iff.1 hxa).1
  have h2 := (List.getElem?_eq_some_iff.1 hxb).1
  unfold stepM
  rw [if_neg (by rw [show inB e.a 0 ((items.length : Int) - 1) = true from inB_true.2 (by omega)]; decide), if_neg (by rw [show inB e.b 0 ((items.length : Int) - 1) = true from inB_true.2 (by omega)]; decide), ha, hb]
  simp [hxa, hxb]
end
theorem singL_get {m k : Nat} (h : k < m) : (singL m)[k]? = some (oneL k) := by
  unfold singL
  rw [List.getElem?_map, List.getElem?_range h]; rfl
theorem singL_succ (k : Nat) : singL (k + 1) = singL k ++ [oneL k] := by
  unfold singL
  rw [List.range_succ, List.map_append]; rfl
theorem singL_len (m : Nat) : (singL m).length = m := by unfold singL; simp
/-- a valid set alone -/
theorem valid_nil {gs : List Gl} {ts : List Ti} (h : validSetB gs ts = true) : Valid gs ts [] := valid_of (by
  unfold validAsmB
  rw [h]
  simp [hasFormB, allB])
theorem valid_one {gs : List Gl} {ts : List Ti} {k : Nat} (h : Valid gs ts []) (hk : k < ts.length) : Valid gs ts (oneL k) := by
  refine { len := by simp [oneL], gl := h.gl, tl := h.tl, pt := ?_, ti := ?_, sorted := ?_, four := h.four, side := h.side, str := h.str }
  · intro j e he
    rcases j with _ | j
    · simp [oneL] at he; subst he; simp
    · simp [oneL] at he
  · intro j e he
    rcases j with _ | j
    · simp [oneL] at he; subst he; exact ⟨k, rfl, hk⟩
    · simp [oneL] at he
  · intro i j d e hij hd he
    rcases j with _ | j
    · omega
    · simp [oneL] at he
/-- what is put together is valid again -/
theorem valid_mv {gs : List Gl} {ts : List Ti} {zs : List Pl} {dx dy : Int} (h : Valid gs ts zs) (hm : mvOk dx dy zs = true) : Valid gs ts (mvL dx dy zs) := by
  refine { len := by rw [mvL_len]; exact h.len, gl := h.gl, tl := h.tl, pt := ?_, ti := ?_, sorted := ?_, four := h.four, side := h.side, str := h.str }
  · intro k e he
    have := mv_pt h hm he
    exact ⟨this.1, this.2.1⟩
  · intro k e he
    exact (mv_pt h hm he).2.2
  · intro i j d e hij hd he
    have hs := sortPl_mv (sortPl_valid h) dx dy
    obtain ⟨hi, rfl⟩ := List.getElem?_eq_some_iff.1 hd
    obtain ⟨hj, rfl⟩ := List.getElem?_eq_some_iff.1 he
    exact List.pairwise_iff_getElem.1 hs i j hi hj hij
theorem combE_valid {gs : List Gl} {ts : List Ti} {xs ys L : List Pl} {t dx dy : Int} (hV : Valid gs ts xs) (hV2 : Valid gs ts ys) (ht : 1 ≤ t) (h : combE gs ts xs ys t dx dy = (L, 0)) : Valid gs ts L := by
  obtain ⟨s, k, hj⟩ : ∃ s k, joinM gs ts xs ys dx dy = (s, k) := ⟨_, _, rfl⟩
  by_cases hk : k = 0
  · subst hk
    by_cases hs : s < t
    · have := (combE_weak hj hs).trans h; injection this with h1 h2; cases h2
    by_cases hl : 500 < xs.length + ys.length
    · have := (combE_full hj hs hl).trans h; injection this with h1 h2; cases h2
    obtain ⟨_, _, _, h2, hsum⟩ := joinM_ok hV hV2 hj
    obtain ⟨e0, he0⟩ := join_first (xs := xs) ht hs hsum
    have hz := h2.valid (by have := mvL_len dx dy ys; omega)
    have hn := (combE_norm hj hs hl).trans h
    cases hm : mvOk (-e0.x) (-e0.y) (sortPl (xs ++ mvL dx dy ys))
    · have := (normE_no he0 hm).trans hn; injection this with h1 h2; cases h2
    · have := (normE_ok he0 hm).trans hn
      injection this with h1 _
      rw [← h1]
      exact valid_mv hz hm
  · have := (combE_code (T := t) hj hk).trans h
    injection this with h1 h2
    exact absurd h2 hk
end Go.Proofs.YtpdpkanlmhigfaaGreat
/- slices.SortFunc at rows of placed tiles that a call has made. -/


namespace Go.Proofs.YtpdpkanlmhigfaaGreat
open Go.RowKit Go.Shelf Go.Lib Go.Sort
attribute [local go_sem] BelowBy.cell BelowBy.cell_drew stillUpon givesUpon

set_option maxRecDepth 100000
def mkPl (f : Pt → Int) (p : Pt) : Pl := ⟨p.x, p.y, f p⟩
def encPl (f : Pt → Int) (p : Pt) : List Value := [.int .i64 p.x, .int .i64 p.y, .int .i64 (f p)]
def tileOf (L : List Pl) (p : Pt) : Int := match L.find? (fun e => decide (e.x = p.x ∧ e.y = p.y)) with
  | some e => e.t
  | none => 0
def ptOf (e : Pl) : Pt := ⟨e.x, e.y⟩
theorem tileOf_mem {L : List Pl} (h : L.Pairwise apart) : ∀ e ∈ L, tileOf L (ptOf e) = e.t := by
  induction L with
  | nil => intro e he; simp at he
  | cons d l ih =>
    obtain ⟨h1, h2⟩ := List.pairwise_cons.1 h
    intro e he
    unfold tileOf
    rw [List.find?_cons]
    rcases List.mem_cons.1 he with rfl | he
    · simp [ptOf]
    · have h3 : ¬ (d.x = e.x ∧ d.y = e.y) := h1 e he
      have h4 : decide (d.x = (ptOf e).x ∧ d.y = (ptOf e).y) = false := decide_eq_false h3
      rw [h4]
      exact ih h2 e he
theorem mk_ptOf {L : List Pl} (h : L.Pairwise apart) : (L.map ptOf).map (mkPl (tileOf L)) = L := by
  rw [List.map_map]
  have : ∀ e ∈ L, (mkPl (tileOf L) ∘ ptOf) e = e := fun e he => by
    have := tileOf_mem h e he
    simp only [Function.comp, mkPl, this]
    cases e; rfl
  rw [List.map_congr_left this, List.map_id'']
  intro x; rfl
theorem sort_ptOf {L : List Pl} (h : L.Pairwise apart) : (sortP (L.map ptOf)).map (mkPl (tileOf L)) = sortPl L := by
  have hp : ((sortP (L.map ptOf)).map (mkPl (tileOf L))).Perm L := by
    have h1 : ((sortP (L.map ptOf)).map (mkPl (tileOf L))).Perm ((L.map ptOf).map (mkPl (tileOf L))) := (List.mergeSort_perm _ _).map _
    rw [mk_ptOf h] at h1
    exact h1
  refine List.Perm.eq_of_pairwise (le := fun a b => ltPl a b = true) ?_ ?_ (sortPl_strict h) (hp.trans (List.mergeSort_perm _ _).symm)
  · intro a b _ _ h1 h2
    rw [ltPl_iff] at h1 h2; omega
  · have h1 : ((sortP (L.map ptOf)).map (mkPl (tileOf L))).Pairwise apart := hp.symm.pairwise h apart_symm
    have h2 : ((sortP (L.map ptOf)).map (mkPl (tileOf L))).Pairwise (fun a b => lePl a b = true) := by
      rw [List.pairwise_map]
      have hs : (sortP (L.map ptOf)).Pairwise (fun a b => (!(ltOf cmpP) b a) = true) := by
        refine List.pairwise_mergeSort ?_ ?_ _
        · intro a b c h1 h2
          have := swo_cmpP.ntrans (x := c) (y := b) (z := a) (by simpa using h2) (by simpa using h1)
          simp [this]
        · intro a b
          cases h1 : ltOf cmpP a b
          · simp
          · have := (swo_cmpP.asymm h1)
            simp [this]
      refine hs.imp ?_
      intro a b h
      rw [ltOf_cmpP] at h
      exact h
    refine (List.Pairwise.and h1 h2).imp ?_
    intro a b hab
    have h3 := (lePl_iff a b).1 hab.2
    have h4 : ¬ (a.x = b.x ∧ a.y = b.y) := hab.1
    rw [ltPl_iff]; omega
theorem flat_pl (f : Pt → Int) (L : List Pt) : (flatK (encPl f) 3 L.toArray).toList = plCells (L.map (mkPl f)) := by
  apply List.ext_getElem?
  intro t
  rw [Array.getElem?_toList]
  by_cases ht : t < L.length * 3
  · have hs : t < (flatK (encPl f) 3 L.toArray).size := by rw [size_flatK]; simpa using ht
    have h1 : (flatK (encPl f) 3 L.toArray)[t]? = some (flatK (encPl f) 3 L.toArray)[t]! := by rw [getElem!_pos _ t hs, Array.getElem?_eq_getElem hs]
    rw [h1, get_flatK _ _ _ _ (by simpa using ht)]
    have hq : t / 3 < L.length := by omega
    have hg := plCells_get (L.map (mkPl f)) (t / 3) (mkPl f L[t / 3]) (by rw [List.getElem?_map, List.getElem?_eq_getElem hq]; rfl)
    have he : L.toArray[t / 3]! = L[t / 3] := by rw [getElem!_pos _ _ (by simpa using hq)]; simp
    rw [he]
    rcases (show t % 3 = 0 ∨ t % 3 = 1 ∨ t % 3 = 2 by omega) with hm | hm | hm
    · rw [hm]
      have : t / 3 * 3 = t := by omega
      rw [this] at hg
      rw [hg.1]; rfl
    · rw [hm]
      have : t / 3 * 3 + 1 = t := by omega
      rw [this] at hg
      rw [hg.2.1]; rfl
    · rw [hm]
      have : t / 3 * 3 + 2 = t := by omega
      rw [this] at hg
      rw [hg.2.2]; rfl
  · rw [Array.getElem?_eq_none (by rw [size_flatK]; simpa using ht), List.getElem?_eq_none (by rw [plCells_len, List.length_map]; omega)]
theorem holds_rowPl {f : Pt → Int} {w : World} {g : Nat} {cur : Array Value} {e : TypeId} {L : List Pt} (hb : w.heap[g]? = some (.cells cur e (0, 0))) (ht : cur.toList.take (L.length * 3) = plCells (L.map (mkPl f))) : HoldsK (encPl f) 3 w g 0 L.toArray := by
  intro j hj
  rw [size_flatK] at hj
  have hj' : j < L.length * 3 := by simpa using hj
  refine ⟨?_, by simp [World.frozen?, hb]⟩
  have h1 : (cur.toList.take (L.length * 3))[j]? = (plCells (L.map (mkPl f)))[j]? := by rw [ht]
  rw [List.getElem?_take_of_lt hj', ← flat_pl, Array.getElem?_toList, Array.getElem?_toList] at h1
  have hs : j < (flatK (encPl f) 3 L.toArray).size := by rw [size_flatK]; simpa using hj'
  simp only [World.cell?, hb, Nat.zero_add]
  simp only [Option.isSome_none, Bool.false_eq_true, if_false, id]
  rw [h1, getElem!_pos _ j hs, Array.getElem?_eq_getElem hs]
theorem heap_sortedPl {f : Pt → Int} {w : World} {g n : Nat} {os : Array Obj} {cur : Array Value} {e : TypeId} {fr : Nat × Nat} (d : Array Pt) (hb : w.heap[g]? = some (.cells cur e fr)) :
    (sortWorldK (encPl f) 3 w g 0 n d os).heap[g]? = some (.cells (putCells id 0 (flatK (encPl f) 3 d) cur) e fr) := by
  have hg : g < w.heap.size := (Array.getElem?_eq_some_iff.1 hb).1
  unfold sortWorldK putRowK
  rw [heap_grow_old _ _ (by simpa using hg)]
  simp [putRow, mapBlock, Sort.ahead, Array.getElem?_modify, hb, onCells]
theorem grownBy_sortedPl {f : Pt → Int} {w : World} {g n : Nat} {os : Array Obj} (d : Array Pt) : w.grownBy (sortWorldK (encPl f) 3 w g 0 n d os) (some g) := by
  refine ⟨rfl, rfl, rfl, by simp [sortWorldK, putRowK], fun k hk hne => ?_⟩
  unfold sortWorldK putRowK
  rw [heap_grow_old _ _ (by simpa using hk)]
  have : g ≠ k := fun e => hne (by rw [e])
  simp [putRow, mapBlock, Sort.ahead, Array.getElem?_modify, this]
theorem take_putPl (f : Pt → Int) (cur : Array Value) (L : List Pt) (h : L.length * 3 ≤ cur.size) : (putCells id 0 (flatK (encPl f) 3 L.toArray) cur).toList.take (L.length * 3) = plCells (L.map (mkPl f)) := by
  rw [← flat_pl]
  apply List.ext_getElem?
  intro j
  by_cases hj : j < L.length * 3
  · have hs : j < (flatK (encPl f) 3 L.toArray).size := by rw [size_flatK]; simpa using hj
    rw [List.getElem?_take_of_lt hj, Array.getElem?_toList, Array.getElem?_toList]
    simp only [putCells, Array.getElem?_mapIdx, Nat.zero_le, Nat.zero_add, true_and, Nat.sub_zero]
    rw [Array.getElem?_eq_getElem (show j < cur.size by omega)]
    simp only [Option.map_some, id]
    rw [if_pos hs, getElem!_pos _ j hs, Array.getElem?_eq_getElem hs]
  · rw [List.getElem?_take_eq_none (by omega), Array.getElem?_toList, Array.getElem?_eq_none (by rw [size_flatK]; simpa using hj)]
theorem assemblyLess_exact (f : Pt → Int) (x y : Pt) (w : World) :
    Calls Tryz.prog 107 #[.agg #[.int .i64 x.x, .int .i64 x.y, .int .i64 (f x)], .agg #[.int .i64 y.x, .int .i64 y.y, .int .i64 (f y)]] w fun e w' => e = .returned (.int .i64 (cmpP x y)) ∧ ∃ q os, w' = grow (w.drewN q) os := by
  go_enter Tryz.func107, Tryz.ntmps107
  go_wp2_with fail
  refine (comparePoints_exact x y _).mono ?_
  rintro e w1 ⟨rfl, q, os, rfl⟩
  go_wp2
  go_ret
  refine ⟨rfl, ?_⟩
  have hdg : ∀ (w : World) (os : Array Obj), (grow w os).drewN q = grow (w.drewN q) os := fun w os => rfl
  simp only [alloc_eq_grow, drew_grow, grow_grow, hdg, World.drew_is_drewN, World.drewN_drewN]
  exact ⟨_, _, rfl⟩
set_option maxHeartbeats 1000000 in
theorem SortFuncPl_any (L : List Pl) (hap : L.Pairwise apart) (B g cap : Nat) (w : World) (hrow : w.ownsRow B 97 3 (.slice (some ⟨g, 0, none⟩) L.length cap) L.length (plCells L)) (hl : L.length ≤ 1000000) :
    Calls Tryz.prog 106 #[.slice (some ⟨g, 0, none⟩) L.length cap, .func (.func 107) #[] #[]] w fun e w' => e = .returned (.tuple #[]) ∧
      w'.ownsRow B 97 3 (.slice (some ⟨g, 0, none⟩) L.length cap) L.length (plCells (sortPl L)) ∧ w.grownBy w' (some g) := by
  rcases hrow with ⟨hcl, h0 | ⟨g', cap', cur, hv, hB, hb, h1, h2, h3, h4⟩⟩
  · cases h0.1
  cases hv
  have hmk := mk_ptOf hap
  have hso := sort_ptOf hap
  obtain ⟨P, hP⟩ : ∃ P, L.map ptOf = P := ⟨_, rfl⟩
  obtain ⟨f, hf⟩ : ∃ f, tileOf L = f := ⟨_, rfl⟩
  rw [hP, hf] at hmk hso
  have hPl : P.length = L.length := by rw [← hP, List.length_map]
  have eg : ∀ args w, (callFunc 107 args).run Tryz.prog w = .ok (.enter 107 args) w := enters_of Tryz.func107 (by kernel_rfl) rfl
  rw [← hmk, List.length_map] at h4
  have hH := holds_rowPl (f := f) hb h4
  have hgl := (Array.getElem?_eq_some_iff.1 hb).1
  have hcon := AnyQ.slices_SortFunc_total Tryz.sortPl 3 Tryz.isAgg97 Tryz.sizeOf97 (encPl f) (fun _ => rfl) (fun x v hv => by simp [encPl] at hv; rcases hv with rfl | rfl | rfl <;> rfl) cmpP swo_cmpP 107 #[] g 0 cap P.toArray w eg
    (fun _ _ _ _ x y => assemblyLess_exact f x y _) hH hgl (by simp; omega) part_cmpP
  have hPs : P.toArray.size = L.length := by simpa using hPl
  rw [hPs] at hcon
  refine hcon.mono ?_
  rintro e w' ⟨he, n, os, rfl⟩
  refine ⟨he, ?_, grownBy_sortedPl _⟩
  have hsl := sortPl_len L
  refine ⟨by rw [plCells_len, hsl], .inr ⟨g, cap, _, rfl, hB, heap_sortedPl _ hb, h1, h2, by simp [putCells, h3], ?_⟩⟩
  have := take_putPl f cur (sortP P) (by rw [sortP_len, hPl, h3]; exact Nat.mul_le_mul_right 3 h1)
  rw [sortP_len, hPl, hso] at this
  exact this
end Go.Proofs.YtpdpkanlmhigfaaGreat
/- Walks: what a pair of hands asks of a set, a temperature and assemblies. -/

namespace Go.Proofs.YtpdpkanlmhigfaaGreat
open Go.RowKit Go.Shelf
attribute [local go_sem] BelowBy.cell BelowBy.cell_drew stillUpon givesUpon BelowBy.cell_drew2 BelowBy.cell_drew3

/-- a set is read -/
structure TS (w : World) (G : Option Addr) (n : Nat) (T : Option Addr) (m : Nat) (gs : List Gl) (ts : List Ti) : Prop where
  G : RdSl 2 RGl w G n gs
  T : RdSl 2 RTi w T m ts
  gm : n ≤ 1073741824
  tm : m ≤ 1073741824
  gn : ∀ (k : Nat) (e : Gl), gs[k]? = some e → e.name.size ≤ 9223372036854775807
  tn : ∀ (k : Nat) (e : Ti), ts[k]? = some e → e.name.size ≤ 9223372036854775807 ∧ e.sides.length ≤ 9223372036854775807
section
variable {w w' : World} {G T A : Option Addr} {n cg m ct q ca : Nat} {gs : List Gl} {ts : List Ti} {xs : List Pl}
theorem TS.below (h : TS w G n T m gs ts) (hb : Below w.heap.size w w') : TS w' G n T m gs ts :=
  ⟨h.G.below RGl.stable hb, h.T.below RTi.stable hb, h.gm, h.tm, h.gn, h.tn⟩
theorem TS.sa (h : TS w G n T m gs ts) (hA : RdSl 3 RPl w A q xs) (hq : q ≤ 1073741824) : SA w G n T m A q gs ts xs := ⟨h.G, h.T, hA, h.gm, h.tm, hq, h.gn, h.tn⟩
theorem SA.toTS (h : SA w G n T m A q gs ts xs) : TS w G n T m gs ts := ⟨h.G, h.T, h.gm, h.tm, h.gn, h.tn⟩
theorem TS.valid {v : Bool} (h : TS w G n T m gs ts) (hv : validSetB gs ts = v) :
    Calls Tryz.prog 54 #[.agg #[.slice G n cg, .slice T m ct]] w fun e w' => e = .returned (.bool v) ∧ Below w.heap.size w w' := by
  rw [← hv]; exact ValidSet_any _ _ _ _ _ _ gs ts _ h.G h.T (Nat.le_trans h.gm (by decide)) (Nat.le_trans h.tm (by decide)) h.gn h.tn
end
/-- a block of assemblies -/
def LRow (w : World) (g : Nat) (Ls : List (List Pl)) : Prop := g < w.heap.size ∧ ∀ (k : Nat) (l : List Pl), Ls[k]? = some l → ∃ A q c, w.cell? ⟨g, k, none⟩ = some (.slice A q c) ∧ RdSl 3 RPl w A q l ∧ q ≤ 1073741824
theorem LRow.below {w w' : World} {g : Nat} {Ls : List (List Pl)} (h : LRow w g Ls) (hb : Below w.heap.size w w') : LRow w' g Ls := by
  refine ⟨Nat.lt_of_lt_of_le h.1 hb.size, fun k l hk => ?_⟩
  obtain ⟨A, q, c, h1, h2, h3⟩ := h.2 k l hk
  exact ⟨A, q, c, (hb.cell (p := ⟨g, k, none⟩) h.1).trans h1, h2.below RPl.stable hb, h3⟩
theorem isTempH_any (t : Int) (w : World) : Calls Tryz.prog 58 #[.int .i64 t] w fun e w' => e = .returned (.bool (inB t 1 16)) ∧ w = w' := by
  go_enter Tryz.func58, Tryz.ntmps58
  go_wp2_with (go_at_call 60; refine (within_any _ _ _ _).mono ?_; rintro e w' ⟨rfl, rfl⟩)
  go_ret
  exact ⟨ret_bool rfl, rfl⟩
theorem isTempH_at {t : Int} {v : Bool} {w : World} (h : inB t 1 16 = v) : Calls Tryz.prog 58 #[.int .i64 t] w fun e w' => e = .returned (.bool v) ∧ w = w' := by
  rw [← h]; exact isTempH_any t w
/-- the box of a pair of hands -/
structure HBox (w : World) (p : Nat) (G : Option Addr) (n : Nat) (T : Option Addr) (m : Nat) (gs : List Gl) (ts : List Ti) : Prop where
  lt : p < w.heap.size
  c0 : ∃ cg, w.cell? ⟨p, 0, none⟩ = some (.slice G n cg)
  c1 : ∃ ct, w.cell? ⟨p, 1, none⟩ = some (.slice T m ct)
  ts : TS w G n T m gs ts
theorem HBox.below {w w' : World} {p : Nat} {G T : Option Addr} {n m : Nat} {gs : List Gl} {ts : List Ti} (h : HBox w p G n T m gs ts) (hb : Below w.heap.size w w') : HBox w' p G n T m gs ts := by
  obtain ⟨cg, h0⟩ := h.c0
  obtain ⟨ct, h1⟩ := h.c1
  exact ⟨Nat.lt_of_lt_of_le h.lt hb.size, ⟨cg, (hb.cell (p := ⟨p, 0, none⟩) h.lt).trans h0⟩, ⟨ct, (hb.cell (p := ⟨p, 1, none⟩) h.lt).trans h1⟩, h.ts.below hb⟩
set_option maxRecDepth 100000 in
theorem handsCode1_at {p : Nat} {G T A : Option Addr} {n m q ca : Nat} {gs : List Gl} {ts : List Ti} {xs : List Pl} {v u : Bool} {w : World} (h : HBox w p G n T m gs ts) (hA : RdSl 3 RPl w A q xs) (hq : q ≤ 1073741824) (hv : validAsmB gs ts xs = v) (hu : (!v) = u) :
    Calls Tryz.prog 56 #[.agg #[.slice A q ca], .pointer (some ⟨p, 0, none⟩)] w fun e w' => e = .returned (.bool u) ∧ Below w.heap.size w w' := by
  subst hu
  obtain ⟨cg, h0⟩ := h.c0
  obtain ⟨ct, h1⟩ := h.c1
  have hp := h.lt
  have hS := Lib.hid (h.ts.sa hA hq)
  have hvH := Lib.hid hv
  clear h hA hv
  go_enter Tryz.func56, Tryz.ntmps56
  go_wp2_with (go_at_call 57; refine (SA.valid (hS.out.below (by exact bel_)) hvH.out).mono ?_; rintro e w1 ⟨rfl, hb1⟩; have hb1H := Lib.hid (show Below w.heap.size w w1 by exact bel_); clear hb1)
  go_ret
  exact ⟨rfl, hb1H.out⟩
def okL (gs : List Gl) (ts : List Ti) (Ls : List (List Pl)) (k : Nat) : Bool := match Ls[k]? with
  | some l => validAsmB gs ts l
  | none => true
theorem okL_eq {gs : List Gl} {ts : List Ti} {Ls : List (List Pl)} {k : Nat} {l : List Pl} (h : Ls[k]? = some l) : okL gs ts Ls k = validAsmB gs ts l := by unfold okL; rw [h]
set_option maxRecDepth 100000 in
set_option maxHeartbeats 1000000 in
theorem IndexFuncA_any {p g N c : Nat} {G T : Option Addr} {n m : Nat} {gs : List Gl} {ts : List Ti} {Ls : List (List Pl)} {w : World} (h : HBox w p G n T m gs ts) (hL : LRow w g Ls) (hN : N = Ls.length) (hn : N ≤ 1073741824) :
    Calls Tryz.prog 83 #[.slice (some ⟨g, 0, none⟩) N c, .func (.func 56) #[] #[.pointer (some ⟨p, 0, none⟩)]] w (FirstRes w N (okL gs ts Ls)) := by
  have hH := Lib.hid h
  have hLH := Lib.hid hL
  have hNH := Lib.hid hN
  clear h hL hN
  go_enter Tryz.func83, Tryz.ntmps83
  go_wp2
  go_loopg [8] N (fun r x wr => ∃ k : Nat, k + r = N ∧ x = .int .i64 k ∧ Hid (∀ j, j < k → okL gs ts Ls j = true) ∧ Hid (Below w.heap.size w wr))
  case atStart => exact ⟨0, by omega, rfl, Lib.hid (fun j hj => by omega), Lib.hid (by exact bel_)⟩
  case round =>
    obtain ⟨k, hk, rfl, hok, hbw⟩ := hrel
    by_cases hkn : k < N
    · obtain ⟨l, hl⟩ : ∃ l, Ls[k]? = some l := ⟨_, List.getElem?_eq_getElem (by have := hNH.out; omega)⟩
      obtain ⟨A, q, ca, a0, a1, a2⟩ := (hLH.out.below hbw.out).2 k l hl
      have hgw := (hLH.out.below hbw.out).1
      have hlH := Lib.hid hl
      have a1H := Lib.hid a1
      clear hl a1
      cases hv : validAsmB gs ts l
      all_goals
        have hvH := Lib.hid hv
        clear hv
        go_wp2_with (go_at_call 56; refine (handsCode1_at ((hH.out.below hbw.out).below (by exact bel_)) (a1H.out.below RPl.stable (by exact bel_)) a2 hvH.out rfl).mono ?_; rintro e w1 ⟨rfl, hb1⟩; have hb1H := Lib.hid (show Below wr.heap.size wr w1 by exact bel_); clear hb1)
      · go_ret
        exact ⟨_, rfl, by rw [allB_false hkn (by rw [okL_eq hlH.out]; exact hvH.out)]; simp, hbw.out.trans (hb1H.out.mono hbw.out.size)⟩
      · go_roundg (N - (k + 1))
        case measure => omega
        case rel => exact ⟨k + 1, by omega, by go_num, Lib.hid (fun j hj => by
            rcases Nat.lt_succ_iff_lt_or_eq.1 hj with hj | rfl
            · exact hok.out j hj
            · rw [okL_eq hlH.out]; exact hvH.out), Lib.hid (hbw.out.trans (hb1H.out.mono hbw.out.size))⟩
    · obtain rfl : k = N := by omega
      go_wp2
      go_ret
      exact ⟨_, rfl, by rw [allB_true hok.out]; simp, hbw.out⟩
set_option maxRecDepth 100000 in
set_option maxHeartbeats 1000000 in
theorem ContainsFuncA_at {p g N c : Nat} {G T : Option Addr} {n m : Nat} {gs : List Gl} {ts : List Ti} {Ls : List (List Pl)} {v u : Bool} {w : World} (h : HBox w p G n T m gs ts) (hL : LRow w g Ls) (hN : N = Ls.length) (hn : N ≤ 1073741824) (hv : allB N (okL gs ts Ls) = v) (hu : (!v) = u) :
    Calls Tryz.prog 55 #[.slice (some ⟨g, 0, none⟩) N c, .func (.func 56) #[] #[.pointer (some ⟨p, 0, none⟩)]] w fun e w' => e = .returned (.bool u) ∧ Below w.heap.size w w' := by
  subst hu
  subst hv
  have hH := Lib.hid h
  have hLH := Lib.hid hL
  have hNH := Lib.hid hN
  clear h hL hN
  go_enter Tryz.func55, Tryz.ntmps55
  go_wp2_with (go_at_call 83; refine (IndexFuncA_any (hH.out.below (by exact bel_)) (hLH.out.below (by exact bel_)) hNH.out hn).mono ?_; rintro e w1 ⟨r, rfl, hr, hb1⟩)
  go_ret
  refine ⟨rfl, ?_⟩
  exact bel_
def codeH (gs : List Gl) (ts : List Ti) (Ls : List (List Pl)) (t : Int) : Int :=
  if (validSetB gs ts && allB Ls.length (okL gs ts Ls)) = false then 1 else if inB t 1 16 = false then 2 else 0
set_option maxRecDepth 100000 in
set_option maxHeartbeats 1000000 in
theorem handsCode_any {g N c : Nat} {G T : Option Addr} {n cg m ct : Nat} {gs : List Gl} {ts : List Ti} {Ls : List (List Pl)} {t : Int} {w : World} (h : TS w G n T m gs ts) (hL : LRow w g Ls) (hN : N = Ls.length) (hn : N ≤ 1073741824) :
    Calls Tryz.prog 28 #[.agg #[.slice G n cg, .slice T m ct, .int .i64 t], .slice (some ⟨g, 0, none⟩) N c] w fun e w' => e = .returned (.int .i64 (codeH gs ts Ls t)) ∧ Below w.heap.size w w' := by
  have hB : Hid (HBox (w.alloc (Obj.cells #[.slice G n cg, .slice T m ct, .int .i64 t] 71)) w.heap.size G n T m gs ts) :=
    Lib.hid ⟨by simp, ⟨cg, by go_simp⟩, ⟨ct, by go_simp⟩, h.below (by exact bel_)⟩
  have hH := Lib.hid h
  have hNH := Lib.hid hN
  have hLH := Lib.hid (hL.below (show Below w.heap.size w (w.alloc (Obj.cells #[.slice G n cg, .slice T m ct, .int .i64 t] 71)) by exact bel_))
  clear h hL hN
  cases hs : validSetB gs ts
  · have hR := Lib.hid (show codeH gs ts Ls t = 1 from if_pos (by rw [hs]; rfl))
    have hsH := Lib.hid hs
    clear hs
    go_enter Tryz.func28, Tryz.ntmps28
    go_wp2_with (go_at_call 54; refine (TS.valid (hH.out.below (by exact bel_)) hsH.out).mono ?_; rintro e w1 ⟨rfl, hb1⟩; obtain ⟨chb1, fhb1, shb1, thb1⟩ := bcell hb1; have s1 := shb1 w.heap.size (by go_simp))
    go_ret
    exact ⟨ret_int hR.out.symm, by exact bel_⟩
  · cases ho : allB N (okL gs ts Ls)
    · have hR := Lib.hid (show codeH gs ts Ls t = 1 from if_pos (by rw [hs, ← hNH.out, ho]; rfl))
      have hsH := Lib.hid hs
      have hoH := Lib.hid ho
      clear hs ho
      go_enter Tryz.func28, Tryz.ntmps28
      go_wp2_with (first
        | (go_at_call 54; refine (TS.valid (hH.out.below (by exact bel_)) hsH.out).mono ?_; rintro e w1 ⟨rfl, hb1⟩; obtain ⟨chb1, fhb1, shb1, thb1⟩ := bcell hb1; have s1 := shb1 w.heap.size (by go_simp))
        | (go_at_call 55; refine (ContainsFuncA_at (hB.out.below (by exact bel_)) (hLH.out.below (by exact bel_)) hNH.out hn hoH.out rfl).mono ?_; rintro e w2 ⟨rfl, hb2⟩))
      go_ret
      exact ⟨ret_int hR.out.symm, by exact bel_⟩
    · cases ht : inB t 1 16
      all_goals
        have hR := Lib.hid (show codeH gs ts Ls t = (if inB t 1 16 = false then 2 else 0) from if_neg (by rw [hs, ← hNH.out, ho]; decide))
        have hsH := Lib.hid hs
        have hoH := Lib.hid ho
        have htH := Lib.hid ht
        clear hs ho ht
        go_enter Tryz.func28, Tryz.ntmps28
        go_wp2_with (first
          | (go_at_call 54; refine (TS.valid (hH.out.below (by exact bel_)) hsH.out).mono ?_; rintro e w1 ⟨rfl, hb1⟩; obtain ⟨chb1, fhb1, shb1, thb1⟩ := bcell hb1; have s1 := shb1 w.heap.size (by go_simp))
          | (go_at_call 55; refine (ContainsFuncA_at (hB.out.below (by exact bel_)) (hLH.out.below (by exact bel_)) hNH.out hn hoH.out rfl).mono ?_; rintro e w2 ⟨rfl, hb2⟩; obtain ⟨chb2, fhb2, shb2, thb2⟩ := bcell hb2; have s2 := shb2 w.heap.size (by go_simp))
          | (go_at_call 58; refine (isTempH_at htH.out).mono ?_; rintro e _ ⟨rfl, rfl⟩))
        go_ret
        exact ⟨ret_int (by rw [hR.out, htH.out]; rfl), by exact bel_⟩
end Go.Proofs.YtpdpkanlmhigfaaGreat
/- Walks: placed tiles sorted to an assembly; two assemblies joined; an assembly in normal form. -/



namespace Go.Proofs.YtpdpkanlmhigfaaGreat
open Go.RowKit Go.Shelf
attribute [local go_sem] BelowBy.cell BelowBy.cell_drew stillUpon givesUpon BelowBy.cell_drew2 BelowBy.cell_drew3

theorem minus_any (a b c d : Int) (w : World) (h1 : -1000000 ≤ a ∧ a ≤ 1000000) (h2 : -1000000 ≤ b ∧ b ≤ 1000000) (h3 : -1000000 ≤ c ∧ c ≤ 1000000) (h4 : -1000000 ≤ d ∧ d ≤ 1000000) :
    Calls Tryz.prog 109 #[.agg #[.int .i64 a, .int .i64 b], .agg #[.int .i64 c, .int .i64 d]] w fun e w' => e = .returned (.agg #[.int .i64 (a - c), .int .i64 (b - d)]) ∧ Below w.heap.size w w' := by
  go_enter Tryz.func109, Tryz.ntmps109
  go_wp2
  refine bodyPost_ret (v := .agg #[.int .i64 (a - c), .int .i64 (b - d)]) (by simp only [results, Tryz.results109]; go_simp) rfl ?_
  exact ⟨rfl, by exact bel_⟩
theorem minus0_any (c d : Int) (w : World) (h3 : -1000000 ≤ c ∧ c ≤ 1000000) (h4 : -1000000 ≤ d ∧ d ≤ 1000000) :
    Calls Tryz.prog 109 #[.agg #[.int .i64 0, .int .i64 0], .agg #[.int .i64 c, .int .i64 d]] w fun e w' => e = .returned (.agg #[.int .i64 (-c), .int .i64 (-d)]) ∧ Below w.heap.size w w' := by
  refine (minus_any 0 0 c d w (by omega) (by omega) h3 h4).mono ?_
  rintro e w' ⟨rfl, hb⟩
  exact ⟨by rw [Int.zero_sub, Int.zero_sub], hb⟩
theorem ownsRow_baseU {w : World} {base base' : Nat} {e : TypeId} {size : Nat} {v : Value} {n : Nat} {xs : List Value} (h : w.ownsRow base e size v n xs) (hb : base' ≤ base) : w.ownsRow base' e size v n xs :=
  ⟨h.1, h.2.imp id (fun ⟨g, cap, cur, h1, h2, h3⟩ => ⟨g, cap, cur, h1, Nat.le_trans hb h2, h3⟩)⟩
/-- the result is an assembly of the call's own -/
def OwnAsm (w : World) (Z : List Pl) (e : Ending) (w' : World) : Prop :=
  ∃ B c', e = .returned (.agg #[.slice B Z.length c']) ∧ w'.ownsRow w.heap.size 97 3 (.slice B Z.length c') Z.length (plCells Z) ∧ Below w.heap.size w w'
set_option maxRecDepth 100000 in
set_option maxHeartbeats 1000000 in
theorem assemblyOf_any (A : Option Addr) (n c : Nat) (L : List Pl) (w : World) (h : RdSl 3 RPl w A n L) (hn : n ≤ 100000) (h0 : 0 < n) (hap : L.Pairwise apart) :
    Calls Tryz.prog 90 #[.slice A n c] w (OwnAsm w (sortPl L)) := by
  have hlH := Lib.hid h.len
  have hH := Lib.hid h
  have hapH := Lib.hid hap
  clear h hap
  go_enter Tryz.func90, Tryz.ntmps90
  go_wp2_with fail
  refine (CloneP_any A n c L _ (hH.out.below RPl.stable (by exact bel_)) hn).mono ?_
  rintro e w1 ⟨v, rfl, hown, hb1⟩
  rw [hlH.out] at hown
  rcases hown.2 with ⟨_, h00⟩ | ⟨g, cap, cur, rfl, hbg, hh, _⟩
  · omega
  have hgw : g < w1.heap.size := (Array.getElem?_eq_some_iff.1 hh).1
  have hbg2 : w.heap.size + 1 ≤ g := by simpa using hbg
  have r0 : w1.cell? ⟨w.heap.size, 0, none⟩ = some (.slice none 0 0) := (hb1.cell (p := ⟨w.heap.size, 0, none⟩) (by simp)).trans (by go_simp)
  have rf : w1.frozen? ⟨w.heap.size, 0, none⟩ = false := (hb1.frozen (p := ⟨w.heap.size, 0, none⟩) (by simp)).trans (by go_simp)
  have hs1 : w.heap.size + 1 ≤ w1.heap.size := by have := hb1.size; simpa using this
  have hbw1 := Lib.hid (show Below w.heap.size w w1 by exact bel_)
  have hownH := Lib.hid hown
  clear hown hb1 hbg hh
  go_wp2_with fail
  have hsrt := SortFuncPl_any L hapH.out (w.heap.size + 1) g cap w1 (by rw [hlH.out]; simpa using hownH.out) (by rw [hlH.out]; omega)
  rw [hlH.out] at hsrt
  refine hsrt.mono ?_
  rintro e w2 ⟨rfl, hown2, hg2⟩
  have hX : Below (w.heap.size + 1) w1 w2 := (Below.refl (w.heap.size + 1) w1).grown hg2 hs1 (fun b e => by injection e with e; omega)
  replace r0 := (hX.cell (p := ⟨w.heap.size, 0, none⟩) (by simp)).trans r0
  replace rf := (hX.frozen (p := ⟨w.heap.size, 0, none⟩) (by simp)).trans rf
  have hs2 : w.heap.size < w2.heap.size := by have := hX.size; omega
  have hown2H := Lib.hid hown2
  have hbw2 := Lib.hid (hbw1.out.trans (hX.mono (by omega)))
  clear hown2 hg2 hsrt hX
  go_wp2
  refine bodyPost_ret (v := .agg #[.slice (some ⟨g, 0, none⟩) n cap]) (by simp only [results, Tryz.results90]; go_simp) rfl ?_
  have hsl : (sortPl L).length = n := by rw [sortPl_len]; exact hlH.out
  refine ⟨some ⟨g, 0, none⟩, cap, by rw [hsl], ?_, hbw2.out.setCell (p := ⟨w.heap.size, 0, none⟩) (by simp) _⟩
  rw [hsl]
  exact ownsRow_baseU (ownsRow_setCell_below hown2H.out (by simp) _) (by omega)
/-- an assembly and a sign -/
def OwnAsmB (w : World) (Z : List Pl) (v : Bool) (e : Ending) (w' : World) : Prop :=
  ∃ B c', e = .returned (.tuple #[.agg #[.slice B Z.length c'], .bool v]) ∧ w'.ownsRow w.heap.size 97 3 (.slice B Z.length c') Z.length (plCells Z) ∧ Below w.heap.size w w'
set_option maxRecDepth 100000 in
set_option maxHeartbeats 4000000 in
theorem joined_any (A C : Option Addr) (n ca m cb : Nat) (gs : List Gl) (ts : List Ti) (xs ms : List Pl) (w : World) (hA : RdSl 3 RPl w A n xs) (hC : RdSl 3 RPl w C m ms) (h2 : Two gs ts xs ms) (hml : m ≤ 500) (h0 : 0 < m) :
    Calls Tryz.prog 62 #[.agg #[.slice A n ca], .agg #[.slice C m cb]] w (OwnAsmB w (sortPl (xs ++ ms)) true) := by
  obtain ⟨i2, hi2, hz02, hz12, hz22⟩ := info_parts infoPl
  have hlA := Lib.hid hA.len
  have hlC := Lib.hid hC.len
  have hn5 : n ≤ 500 := by have := h2.V.len; rw [hA.len] at this; exact this
  have hVH := Lib.hid h2.V
  have hfr := Lib.hid h2.fr
  have hap := Lib.hid h2.apart
  have hAH := Lib.hid hA
  have hCH := Lib.hid hC
  clear hA hC h2
  go_enter Tryz.func62, Tryz.ntmps62
  go_wp2_with fail
  refine (CloneP_any A n ca xs _ (hAH.out.below RPl.stable (by exact bel_)) (by omega)).mono ?_
  rintro e w1 ⟨v1, rfl, hown, hb1⟩
  rw [hlA.out] at hown
  obtain ⟨A3, c3, rfl⟩ := ownsRow_form hown
  have hown0 := Lib.hid (show w1.ownsRow (w.heap.size + 3) 97 3 (.slice A3 n c3) n (plCells xs) by simpa using hown)
  have hs1 : w.heap.size + 3 ≤ w1.heap.size := by have := hb1.size; simpa using this
  have hbw1 := Lib.hid (show Below w.heap.size w w1 by exact bel_)
  have ka : w1.cell? ⟨w.heap.size, 0, none⟩ = some (.slice A n ca) := (hb1.cell (p := ⟨w.heap.size, 0, none⟩) (by simp; omega)).trans (by go_simp)
  have kb : w1.cell? ⟨w.heap.size + 1, 0, none⟩ = some (.slice C m cb) := (hb1.cell (p := ⟨w.heap.size + 1, 0, none⟩) (by simp)).trans (by go_simp)
  have r0 : w1.cell? ⟨w.heap.size + 1 + 1, 0, none⟩ = some (.slice none 0 0) := (hb1.cell (p := ⟨w.heap.size + 1 + 1, 0, none⟩) (by simp)).trans (by go_simp)
  have rf : w1.frozen? ⟨w.heap.size + 1 + 1, 0, none⟩ = false := (hb1.frozen (p := ⟨w.heap.size + 1 + 1, 0, none⟩) (by simp)).trans (by go_simp)
  have l0 : w.heap.size < w1.heap.size := by omega
  have l1 : w.heap.size + 1 < w1.heap.size := by omega
  have l2 : w.heap.size + 1 + 1 < w1.heap.size := by omega
  clear hown hb1
  go_wp2
  go_loopg [16, 6] m (fun g x y wr => ∃ (k : Nat) (A4 : Option Addr) (c4 : Nat), k + g = m ∧ x = .int .i64 (k : Int) ∧ y = .slice A4 (n + k) c4 ∧ Hid (wr.ownsRow (w.heap.size + 3) 97 3 (.slice A4 (n + k) c4) (n + k) (plCells (xs ++ ms.take k))) ∧ Hid (Below w.heap.size w wr) ∧ w.heap.size + 3 ≤ wr.heap.size ∧ wr.cell? ⟨w.heap.size, 0, none⟩ = some (.slice A n ca) ∧ wr.cell? ⟨w.heap.size + 1 + 1, 0, none⟩ = some (.slice none 0 0) ∧ wr.frozen? ⟨w.heap.size + 1 + 1, 0, none⟩ = false)
  case atStart => exact ⟨0, A3, c3, by omega, rfl, rfl, Lib.hid (by simpa using hown0.out), hbw1, hs1, ka, r0, rf⟩
  case round =>
    clear hown0 hbw1 hs1 ka kb r0 rf l0 l1 l2
    obtain ⟨k, A4, c4, hk, rfl, rfl, hO, hbw, hs1, ka, r0, rf⟩ := hrel
    have l0 : w.heap.size < wr.heap.size := by omega
    have l2 : w.heap.size + 1 + 1 < wr.heap.size := by omega
    by_cases hkm : k < m
    · obtain ⟨e, he⟩ : ∃ e, ms[k]? = some e := ⟨_, List.getElem?_eq_getElem (by have := hlC.out; omega)⟩
      obtain ⟨bB, oB, rfl, hbB, hcB⟩ := (hCH.out.below RPl.stable hbw.out).ptr (by omega)
      obtain ⟨e0, e1, e2⟩ := hcB k e he
      have hat : atI xs e.x e.y = -1 := by
        have hf := hfr.out k (lt_of_get he)
        rw [freeAt_eq he, decide_eq_true_eq] at hf
        rcases atI_cases hVH.out e.x e.y with ⟨_, h⟩ | ⟨i, t2, d, hp, _, _, _, _⟩
        · exact h
        · omega
      have hatH := Lib.hid hat
      have htk : ms.take (k + 1) = ms.take k ++ [e] := by
        obtain ⟨hi, rfl⟩ := List.getElem?_eq_some_iff.1 he
        exact List.take_succ_eq_append_getElem hi
      have htkH := Lib.hid htk
      clear hcB hat he htk
      go_wp2_with fail
      refine (at_at (hAH.out.below RPl.stable (hbw.out.trans (Below.mono (show Below wr.heap.size wr _ by exact bel_) hbw.out.size))) hVH.out hatH.out).mono ?_
      rintro e' w2 ⟨rfl, hb2⟩
      have d0 : w2.cell? ⟨wr.heap.size, 0, none⟩ = some (.int .i64 e.x) := (hb2.cell (p := ⟨wr.heap.size, 0, none⟩) (by simp)).trans (by go_simp)
      have d1 : w2.cell? ⟨wr.heap.size, 1, none⟩ = some (.int .i64 e.y) := (hb2.cell (p := ⟨wr.heap.size, 1, none⟩) (by simp)).trans (by go_simp)
      have d2 : w2.cell? ⟨wr.heap.size, 2, none⟩ = some (.int .i64 e.t) := (hb2.cell (p := ⟨wr.heap.size, 2, none⟩) (by simp)).trans (by go_simp)
      have hB2 : Below wr.heap.size wr w2 := by exact bel_
      have s2 := hB2.size
      have s3 : wr.heap.size < w2.heap.size := Nat.lt_of_lt_of_le (by simp) hb2.size
      replace ka := (hB2.cell (p := ⟨w.heap.size, 0, none⟩) l0).trans ka
      replace r0 := (hB2.cell (p := ⟨w.heap.size + 1 + 1, 0, none⟩) l2).trans r0
      replace rf := (hB2.frozen (p := ⟨w.heap.size + 1 + 1, 0, none⟩) l2).trans rf
      have hO2 := Lib.hid (ownsRow_below hO.out hB2)
      have hbw2 := Lib.hid (hbw.out.trans (Below.mono hB2 hbw.out.size))
      clear hb2 hB2 e0 e1 e2 hO hbw
      go_wp2_with (at_builtin; refine wpList_append_own _ rfl _ _ 29 rfl (w.heap.size + 3) 97 i2 (.agg #[.int .i64 0, .int .i64 0, .int .i64 0]) 3 24 Tryz.underlying29 hi2 hz02 hz12 hz22 rfl (by decide) _ _ _ rfl (hO2.out.alloc _) ⟨w2.heap.size, 0, none⟩ 1 1 [.int .i64 e.x, .int .i64 e.y, .int .i64 e.t] rfl rfl (cell_three_new _ _ _ _ _) (fun x hx => by simp at hx; rcases hx with rfl | rfl | rfl <;> rfl) (by unfold maxLen; omega) (by omega) (by simp; omega) ?_; intro v' w3 hown' hgrow _; obtain ⟨g', cap', rfl⟩ := ownsRow_succ hown'; have hX : Below (w.heap.size + 3) w2 w3 := ((Below.refl (w.heap.size + 3) w2).alloc (by omega) _).grown hgrow (by simp; omega) (fun b' hb' => (hO2.out.lt b' hb').1); replace ka := (hX.cell (p := ⟨w.heap.size, 0, none⟩) (by simp)).trans ka; replace r0 := (hX.cell (p := ⟨w.heap.size + 1 + 1, 0, none⟩) (by simp)).trans r0; replace rf := (hX.frozen (p := ⟨w.heap.size + 1 + 1, 0, none⟩) (by simp)).trans rf; have hown3 := Lib.hid hown'; have hbw3 := Lib.hid (hbw2.out.trans (hX.mono (by omega))); have s4 := hX.size; clear hown' hgrow hX)
      go_roundg (m - (k + 1))
      case measure => omega
      case rel => exact ⟨k + 1, _, _, by omega, by go_num, rfl, Lib.hid (by
          have := hown3.out
          rw [htkH.out, ← List.append_assoc, plCells_snoc]
          exact this), hbw3, by omega, ka, r0, rf⟩
    · obtain rfl : k = m := by omega
      have hLL : (xs ++ ms).length = n + k := by rw [List.length_append, hlA.out, hlC.out]
      have hO1 := hO.out
      rw [List.take_of_length_le (by have := hlC.out; omega), ← hLL] at hO1
      obtain ⟨A5, c5, hv, hrd⟩ := rdP_of_row hO1
      injection hv with h1 h2 h3
      subst h1
      rw [hLL] at hrd
      have hrdH := Lib.hid hrd
      have hsz : (sortPl (xs ++ ms)).length = n + k := by rw [sortPl_len, hLL]
      have hszH := Lib.hid hsz
      clear hO1 hrd hLL hsz
      go_wp2_with fail
      refine (assemblyOf_any _ _ _ (xs ++ ms) _ (hrdH.out.below RPl.stable (by exact bel_)) (by omega) (by omega) hap.out).mono ?_
      rintro e w2 ⟨B, c', rfl, hown2, hb2⟩
      rw [hszH.out] at hown2
      have hB2 : Below wr.heap.size wr w2 := by exact bel_
      have s2 := hB2.size
      replace r0 := (hB2.cell (p := ⟨w.heap.size + 1 + 1, 0, none⟩) l2).trans r0
      replace rf := (hB2.frozen (p := ⟨w.heap.size + 1 + 1, 0, none⟩) l2).trans rf
      have l2' : w.heap.size + 1 + 1 < w2.heap.size := by omega
      have hown2H := Lib.hid (ownsRow_baseU hown2 (show w.heap.size + 3 ≤ wr.heap.size by omega))
      have hbw2 := Lib.hid (hbw.out.trans (Below.mono hB2 hbw.out.size))
      clear hb2 hB2 hown2
      rw [hszH.out]
      go_wp2
      refine bodyPost_ret (v := .tuple #[.agg #[.slice B (n + k) c'], .bool true]) (by simp only [results, Tryz.results62]; go_simp) rfl ?_
      refine ⟨B, c', by rw [hszH.out], ?_, hbw2.out.setCell (p := ⟨w.heap.size + 1 + 1, 0, none⟩) (by simp; omega) _⟩
      rw [hszH.out]
      exact ownsRow_baseU (ownsRow_setCell_below hown2H.out (by simp) _) (by omega)
end Go.Proofs.YtpdpkanlmhigfaaGreat
/- Walks: an assembly in normal form; two assemblies put together. -/



namespace Go.Proofs.YtpdpkanlmhigfaaGreat
open Go.RowKit Go.Shelf
attribute [local go_sem] BelowBy.cell BelowBy.cell_drew stillUpon givesUpon BelowBy.cell_drew2 BelowBy.cell_drew3

set_option maxRecDepth 100000 in
set_option maxHeartbeats 2000000 in
theorem normalized_any {gs : List Gl} {ts : List Ti} (A : Option Addr) (n c : Nat) (zs : List Pl) (e : Pl) (w : World) (h : RdSl 3 RPl w A n zs) (hV : Valid gs ts zs) (he : zs[0]? = some e) :
    Calls Tryz.prog 92 #[.agg #[.slice A n c]] w (OwnAsm w (mvL (-e.x) (-e.y) zs)) := by
  have hl := h.len
  have hlt := lt_of_get he
  obtain ⟨ex, ey⟩ := hV.pt 0 e he
  have hn5 := hV.len
  have hpt := Lib.hid hV.pt
  have hlH := Lib.hid hl
  obtain ⟨b, o, rfl, hb, hc⟩ := h.ptr (by omega)
  obtain ⟨c0, c1, c2⟩ := hc 0 e he
  simp only [Nat.zero_mul, Nat.add_zero] at c0 c1 c2
  have hH := Lib.hid h
  have heH := Lib.hid he
  have hn0 : 0 < n := by omega
  have hnI : (0 : Int) < (n : Int) := by omega
  have hn55 : n ≤ 500 := by omega
  clear h hV he hl hc hn5 hlt
  go_enter Tryz.func92, Tryz.ntmps92
  go_wp2
  have hbb : b < w.heap.size + 1 + 1 := by omega
  refine wp_region_ord [(0, .q), (1, .q), (2, .q), (3, .q), (4, .q), (5, .q), (6, .q), (7, .g), (8, .g), (9, .b)] (by kernel_rfl) (by kernel_rfl) ?_
  simp only [pick, List.filterMap_cons, List.filterMap_nil, List.getElem?_toArray, List.getElem?_cons_zero, List.getElem?_cons_succ, Option.map_some]
  repeat (first
    | ((with_reducible refine wpD_p (fun K hK => ?_)); go_simp; refine hK _ ?_; clear hK K)
    | ((with_reducible refine wpD_q (fun K hK => ?_)); go_simp; (first | refine hK _ ?_ | (go_bits; refine hK _ ?_) | (go_bits; go_simp; refine hK _ ?_)); clear hK K)
    | ((with_reducible refine wpD_g (fun K hK => ?_)); go_simp; refine hK _ _ ?_; clear hK K)
    | ((with_reducible refine wpD_g (fun K hK => ?_)); go_simp; refine ⟨Grew.of_alloc _, hK _ _ ?_⟩; clear hK K)
    | ((with_reducible refine wpD_g (fun K hK => ?_)); go_simp; go_at_call 109; refine (minus0_any e.x e.y _ (by omega) (by omega)).mono ?_; rintro e w2 ⟨rfl, hb2⟩; refine ⟨_, rfl, hb2, hK _ _ ?_⟩; clear hK K; obtain ⟨chb2, fhb2, shb2, thb2⟩ := bcell hb2))
  with_reducible refine wpD_g (fun K hK => ?_)
  go_simp
  refine (moved_own _ n c zs (-e.x) (-e.y) _ (hH.out.below RPl.stable (by exact bel_)) (by omega) hpt.out (by omega) (by omega)).mono ?_
  rintro e' w3 ⟨B, c', rfl, hown, hb3⟩
  refine ⟨_, rfl, hb3, hK _ _ ?_⟩
  clear hK K
  have hs2 : w.heap.size + 2 ≤ w2.heap.size := by have := hb2.size; simpa using this
  have r0 : w2.cell? ⟨w.heap.size + 1, 0, none⟩ = some (.slice none 0 0) := (hb2.cell (p := ⟨w.heap.size + 1, 0, none⟩) (by simp)).trans (by go_simp)
  have rf : w2.frozen? ⟨w.heap.size + 1, 0, none⟩ = false := (hb2.frozen (p := ⟨w.heap.size + 1, 0, none⟩) (by simp)).trans (by go_simp)
  replace r0 := (hb3.cell (p := ⟨w.heap.size + 1, 0, none⟩) (by simp; omega)).trans r0
  replace rf := (hb3.frozen (p := ⟨w.heap.size + 1, 0, none⟩) (by simp; omega)).trans rf
  have hs3 : w.heap.size + 1 < w3.heap.size := by have := hb3.size; omega
  have hownH := Lib.hid (ownsRow_baseU hown (show w.heap.size + 2 ≤ w2.heap.size by omega))
  have hbw3 := Lib.hid (show Below w.heap.size w w3 by exact bel_)
  have hml : (mvL (-e.x) (-e.y) zs).length = n := by rw [mvL_len]; exact hlH.out
  have hmlH := Lib.hid hml
  clear hown hb3 hb2 chb2 fhb2 shb2 thb2 hml
  with_reducible refine wpD_b (fun K hK => ?_)
  go_simp
  refine hK _ _ ?_
  clear hK K
  with_reducible refine wpD_nil ?_
  go_wp2
  refine bodyPost_ret (v := .agg #[.slice B n c']) (by simp only [results, Tryz.results92]; go_simp) rfl ?_
  refine ⟨B, c', by rw [hmlH.out], ?_, hbw3.out.setCell (p := ⟨w.heap.size + 1, 0, none⟩) (by simp) _⟩
  rw [hmlH.out]
  exact ownsRow_baseU (ownsRow_setCell_below hownH.out (by simp) _) (by omega)
theorem AsmRes.lift {w w' : World} {r : List Pl × Int} {base : Nat} {n : Nat} {c : Int} {bs : List Pl} {A : Option Addr} {cap : Nat} (h : (bs, c) = r) (hn : bs.length = n) (hr : w'.ownsRow base 97 3 (.slice A n cap) n (plCells bs)) (hbase : w.heap.size ≤ base) (hb : Below w.heap.size w w') : AsmRes w r (.returned (.tuple #[.agg #[.slice A n cap], .int .i64 c])) w' :=
  AsmRes.of h hn.symm (ownsRow_baseU hr hbase) hb
set_option maxRecDepth 100000 in
set_option maxHeartbeats 2000000 in
theorem Normalize_any {gs : List Gl} {ts : List Ti} (A : Option Addr) (n c : Nat) (zs : List Pl) (e : Pl) (w : World) (h : RdSl 3 RPl w A n zs) (hV : Valid gs ts zs) (he : zs[0]? = some e) :
    Calls Tryz.prog 64 #[.agg #[.slice A n c]] w (AsmRes w (normE zs)) := by
  have hl := h.len
  have hlt := lt_of_get he
  have hn5 := hV.len
  have hfm := Lib.hid (hasForm_valid hV)
  have hfm2 := Lib.hid (hasForm_mv (-e.x) (-e.y) hV)
  have hVH := Lib.hid hV
  have hH := Lib.hid h
  have heH := Lib.hid he
  have hlH := Lib.hid hl
  have hn0 : 0 < n := by omega
  have hn55 : n ≤ 500 := by omega
  have hz : ((n : Int) == 0) = false := by simp; omega
  have hnI : (0 : Int) < (n : Int) := by omega
  have hml : (mvL (-e.x) (-e.y) zs).length = n := by rw [mvL_len]; exact hl
  have hmlH := Lib.hid hml
  clear h hV he hl hlt hml
  cases hm : mvOk (-e.x) (-e.y) zs
  all_goals
    have hf2 := Lib.hid (hfm2.out.trans hm)
    have hmH := Lib.hid hm
    clear hm
    go_enter Tryz.func64, Tryz.ntmps64
    go_wp2_with fail
    refine (hasForm_at (hH.out.below RPl.stable (by exact bel_)) (by omega) hfm.out).mono ?_
    rintro e' w1 ⟨rfl, hb1⟩
    obtain ⟨chb1, fhb1, shb1, thb1⟩ := bcell hb1
    have s1 := shb1 w.heap.size (by go_simp)
    have s1' := shb1 (w.heap.size + 1) (by go_simp)
    go_wp2_with fail
    refine (normalized_any A n c zs e _ (hH.out.below RPl.stable (by exact bel_)) hVH.out heH.out).mono ?_
    rintro e' w2 ⟨B, c', rfl, hown, hb2⟩
    rw [hmlH.out] at hown ⊢
    have hownH := Lib.hid (ownsRow_baseU hown (show w.heap.size + 2 ≤ _ by have := hb1.size; simp at this ⊢; omega))
    have hrd : RdSl 3 RPl w2 B n (mvL (-e.x) (-e.y) zs) := rdPl hown hmlH.out.symm
    have hrdH := Lib.hid hrd
    obtain ⟨chb2, fhb2, shb2, thb2⟩ := bcell hb2
    have s2 := shb2 w.heap.size (by go_simp)
    have s2' := shb2 (w.heap.size + 1) (by go_simp)
    clear hown hrd
    go_wp2_with fail
    refine (hasForm_at (hrdH.out.below RPl.stable (by exact bel_)) (by omega) hf2.out).mono ?_
    rintro e' w3 ⟨rfl, hb3⟩
  · have hb30 := Lib.hid (show Below w.heap.size w w3 by exact bel_)
    obtain ⟨chb3, fhb3, shb3, thb3⟩ := bcell hb3
    have s3 := shb3 (w.heap.size + 1) (by go_simp)
    go_wp2
    refine bodyPost_ret (v := .tuple #[.agg #[.slice none 0 0], .int .i64 2]) (by simp only [results, Tryz.results64]; go_simp) rfl ?_
    exact AsmRes.lift (base := w.heap.size) (normE_no heH.out hmH.out) rfl (World.ownsRow_nil _ _ _ _) (Nat.le_refl _) (hb30.out.setCell (p := ⟨w.heap.size + 1, 0, none⟩) (by simp) _)
  · have hb30 := Lib.hid (show Below w.heap.size w w3 by exact bel_)
    obtain ⟨chb3, fhb3, shb3, thb3⟩ := bcell hb3
    have s3 := shb3 (w.heap.size + 1) (by go_simp)
    have hl2 : w2.heap.size < w3.heap.size := Nat.lt_of_lt_of_le (by simp) hb3.size
    have q0 : w3.cell? ⟨w2.heap.size, 0, none⟩ = some (.slice B n c') := (hb3.cell (p := ⟨w2.heap.size, 0, none⟩) (by simp)).trans (by go_simp)
    have hB3 : Below w2.heap.size w2 w3 := by exact bel_
    have hown3 := Lib.hid (ownsRow_below hownH.out hB3)
    clear hb3 hB3
    go_wp2
    refine bodyPost_ret (v := .tuple #[.agg #[.slice B n c'], .int .i64 0]) (by simp only [results, Tryz.results64]; go_simp) rfl ?_
    exact AsmRes.lift (base := w.heap.size + 2) (normE_ok heH.out hmH.out) hmlH.out (ownsRow_setCell_below hown3.out (by simp) _) (by omega) (hb30.out.setCell (p := ⟨w.heap.size + 1, 0, none⟩) (by simp) _)
end Go.Proofs.YtpdpkanlmhigfaaGreat
/- Walks: Combine, the program. -/


namespace Go.Proofs.YtpdpkanlmhigfaaGreat
open Go.RowKit Go.Shelf
attribute [local go_sem] BelowBy.cell BelowBy.cell_drew stillUpon givesUpon BelowBy.cell_drew2 BelowBy.cell_drew3

theorem joinStrength_at {G T A C : Option Addr} {n cg m ct q ca nb cb : Nat} {gs : List Gl} {ts : List Ti} {xs ys : List Pl} {dx dy s k : Int} {w : World} (hS : SA w G n T m A q gs ts xs) (hC : RdSl 3 RPl w C nb ys) (hV : Valid gs ts xs) (hVb : Valid gs ts ys) (h : joinM gs ts xs ys dx dy = (s, k)) :
    Calls Tryz.prog 61 #[.agg #[.slice G n cg, .slice T m ct], .agg #[.slice A q ca], .agg #[.slice C nb cb], .agg #[.int .i64 dx, .int .i64 dy]] w fun e w' => e = .returned (.tuple #[.int .i64 s, .int .i64 k]) ∧ Below w.heap.size w w' := by
  have := joinStrength_any G T A C n cg m ct q ca nb cb gs ts xs ys dx dy w hS hC hV hVb
  rw [h] at this
  exact this
theorem sumJ_top {gs : List Gl} {ts : List Ti} {xs ys : List Pl} {dx dy s : Int} (hV : Valid gs ts xs) (hV2 : Valid gs ts ys) (h : joinM gs ts xs ys dx dy = (s, 0)) : 0 ≤ s ∧ s ≤ 8000 := by
  obtain ⟨_, _, _, _, rfl⟩ := joinM_ok hV hV2 h
  have h1 := sumJ_bound hV (mvL dx dy ys) (mvL dx dy ys).length
  have h2 := mvL_len dx dy ys
  have h3 := hV2.len
  omega
set_option maxRecDepth 100000 in
set_option maxHeartbeats 4000000 in
theorem combine_any (G T A C : Option Addr) (n cg m ct q ca nb cb : Nat) (gs : List Gl) (ts : List Ti) (xs ys : List Pl) (t dx dy : Int) (w : World) (hS : SA w G n T m A q gs ts xs) (hC : RdSl 3 RPl w C nb ys) (hV : Valid gs ts xs) (hVb : Valid gs ts ys) (ht : 1 ≤ t) :
    Calls Tryz.prog 31 #[.agg #[.slice G n cg, .slice T m ct, .int .i64 t], .agg #[.slice A q ca], .agg #[.slice C nb cb], .agg #[.int .i64 dx, .int .i64 dy]] w (AsmRes w (combE gs ts xs ys t dx dy)) := by
  have hlb := hC.len
  have hla := hS.A.len
  have hl5 := hV.len
  have hlb5 := hVb.len
  obtain ⟨s, k, hj⟩ : ∃ s k, joinM gs ts xs ys dx dy = (s, k) := ⟨_, _, rfl⟩
  have hSH := Lib.hid hS
  have hCH := Lib.hid hC
  have hVH := Lib.hid hV
  have hVbH := Lib.hid hVb
  have hjH := Lib.hid hj
  by_cases hk : k = 0
  · subst hk
    by_cases hst : s < t
    · have hrH := Lib.hid (combE_weak hj hst)
      clear hS hC hV hVb hj
      go_enter Tryz.func31, Tryz.ntmps31
      go_wp2_with fail
      refine (joinStrength_at (hSH.out.below (by exact bel_)) (hCH.out.below RPl.stable (by exact bel_)) hVH.out hVbH.out hjH.out).mono ?_
      rintro e w1 ⟨rfl, hb1⟩
      have hb10 := Lib.hid (show Below w.heap.size w w1 by exact bel_)
      obtain ⟨chb1, fhb1, shb1, thb1⟩ := bcell hb1
      have s1 := shb1 w.heap.size (by go_simp)
      have s4 := shb1 (w.heap.size + 1 + 1 + 1 + 1) (by go_simp)
      go_wp2
      refine bodyPost_ret (v := .tuple #[.agg #[.slice none 0 0], .int .i64 5]) (by simp only [results, Tryz.results31]; go_simp) rfl ?_
      exact AsmRes.lift (base := w.heap.size) hrH.out rfl (World.ownsRow_nil _ _ _ _) (Nat.le_refl _) (hb10.out.setCell (p := ⟨w.heap.size + 1 + 1 + 1 + 1, 0, none⟩) (by simp; omega) _)
    · obtain ⟨hx, hy, hmv, h2, hsum⟩ := joinM_ok hV hVb hj
      have hxI := inB_true.1 hx
      have hyI := inB_true.1 hy
      obtain ⟨e0, he0⟩ := join_first (xs := xs) ht hst hsum
      have hml : (mvL dx dy ys).length = nb := by rw [mvL_len, hlb]
      have hb0 : 0 < nb := by
        rcases Nat.eq_zero_or_pos nb with h0 | h0
        · rw [List.eq_nil_of_length_eq_zero (l := mvL dx dy ys) (by omega)] at hsum
          simp [sumJ] at hsum
          omega
        · exact h0
      obtain ⟨ms, hms⟩ : ∃ ms, mvL dx dy ys = ms := ⟨_, rfl⟩
      rw [hms] at h2 he0 hml hsum
      have h2H := Lib.hid h2
      have hmsH := Lib.hid hms
      have he0H := Lib.hid he0
      have hzl : (sortPl (xs ++ ms)).length = q + nb := by rw [sortPl_len, List.length_append, hla, hml]
      have hzlH := Lib.hid hzl
      have hmlH := Lib.hid hml
      have hptb := Lib.hid hVb.pt
      have hqb : q ≤ 500 := by omega
      have hnbb : nb ≤ 500 := by omega
      have hfu : Hid (500 < q + nb → (([], 4) : List Pl × Int) = combE gs ts xs ys t dx dy) := Lib.hid (fun h => combE_full hj hst (by omega))
      have hnm : Hid (¬ 500 < q + nb → normE (sortPl (xs ++ ms)) = combE gs ts xs ys t dx dy) := Lib.hid (fun h => by rw [← hms]; exact combE_norm hj hst (by omega))
      have hVz : Hid (¬ 500 < q + nb → Valid gs ts (sortPl (xs ++ ms))) := Lib.hid (fun h => h2.valid (by omega))
      clear hS hC hV hVb hj h2 hms he0 hsum hx hy hmv hzl hml hlb hla
      go_enter Tryz.func31, Tryz.ntmps31
      go_wp2_with fail
      refine (joinStrength_at (hSH.out.below (by exact bel_)) (hCH.out.below RPl.stable (by exact bel_)) hVH.out hVbH.out hjH.out).mono ?_
      rintro e w1 ⟨rfl, hb1⟩
      have hb10 := Lib.hid (show Below w.heap.size w w1 by exact bel_)
      have y0 : w1.cell? ⟨w.heap.size, 2, none⟩ = some (.int .i64 t) := (hb1.cell (p := ⟨w.heap.size, 2, none⟩) (by simp; try omega)).trans (by go_simp)
      have y1 : w1.cell? ⟨w.heap.size + 1, 0, none⟩ = some (.slice A q ca) := (hb1.cell (p := ⟨w.heap.size + 1, 0, none⟩) (by simp; try omega)).trans (by go_simp)
      have y2 : w1.cell? ⟨w.heap.size + 1 + 1, 0, none⟩ = some (.slice C nb cb) := (hb1.cell (p := ⟨w.heap.size + 1 + 1, 0, none⟩) (by simp; try omega)).trans (by go_simp)
      have y3 : w1.cell? ⟨w.heap.size + 1 + 1 + 1, 0, none⟩ = some (.int .i64 dx) := (hb1.cell (p := ⟨w.heap.size + 1 + 1 + 1, 0, none⟩) (by simp)).trans (by go_simp)
      have y3' : w1.cell? ⟨w.heap.size + 1 + 1 + 1, 1, none⟩ = some (.int .i64 dy) := (hb1.cell (p := ⟨w.heap.size + 1 + 1 + 1, 1, none⟩) (by simp)).trans (by go_simp)
      have y4 : w1.cell? ⟨w.heap.size + 1 + 1 + 1 + 1, 0, none⟩ = some (.slice none 0 0) := (hb1.cell (p := ⟨w.heap.size + 1 + 1 + 1 + 1, 0, none⟩) (by simp)).trans (by go_simp)
      have k4 : w1.frozen? ⟨w.heap.size + 1 + 1 + 1 + 1, 0, none⟩ = false := (hb1.frozen (p := ⟨w.heap.size + 1 + 1 + 1 + 1, 0, none⟩) (by simp)).trans (by go_simp)
      have ls : w.heap.size + 5 ≤ w1.heap.size := by have := hb1.size; simp at this; omega
      have l0 : w.heap.size < w1.heap.size := by omega
      have l1 : w.heap.size + 1 < w1.heap.size := by omega
      have l2 : w.heap.size + 1 + 1 < w1.heap.size := by omega
      have l3 : w.heap.size + 1 + 1 + 1 < w1.heap.size := by omega
      have l4 : w.heap.size + 1 + 1 + 1 + 1 < w1.heap.size := by omega
      clear hb1
      go_wp2_with fail
      refine wp_region_fl 8 [(0, .q), (1, .q), (2, .q), (3, .g), (4, .g), (5, .q), (6, .q), (7, .p)] [(9, .b), (10, .q)] _ (Obj.cells #[.slice none 0 0] 31) (by kernel_rfl) (by kernel_rfl) (by kernel_rfl) (by kernel_rfl) rfl (fun a w => ⟨rfl, by unfold flPtr; go_simp⟩) ?_
      simp only [pick, List.filterMap_cons, List.filterMap_nil, List.getElem?_toArray, List.getElem?_cons_zero, List.getElem?_cons_succ, Option.map_some]
      repeat (first | ((with_reducible refine wpL_p (fun K hK => ?_)); go_simp; refine hK _ ?_; clear hK K) | ((with_reducible refine wpL_q (fun K hK => ?_)); go_simp; (first | refine hK _ ?_ | (go_bits; refine hK _ ?_) | (go_bits; go_simp; refine hK _ ?_)); clear hK K))
      with_reducible refine wpL_g rfl (fun K hK st4 u4 mv4 => ?_)
      have hu4 := mv4.below
      have fu4 := (FlAt.none (Obj.cells #[.slice none 0 0] 31) (World.drew w1)).mv mv4
      have j4 : Below w1.heap.size w1 u4 := (Below.refl _ w1).drew.trans (hu4.mono (Nat.le_refl _))
      clear mv4
      go_simp
      refine (moved_any C nb cb ys dx dy _ ((hCH.out.below RPl.stable hb10.out).below RPl.stable j4) (by omega) hptb.out hxI hyI).mono ?_
      rintro e w2 ⟨B, c2, rfl, hrd2, hb2⟩
      refine ⟨_, rfl, hb2, hK _ _ _ ?_⟩
      clear hK K
      rw [hmsH.out] at hrd2
      have hrd2H := Lib.hid hrd2
      have fd4 := fu4.below hb2
      have j5 : Below w1.heap.size w1 w2 := j4.trans (hb2.mono j4.size)
      repeat (first | ((with_reducible refine wpL_p (fun K hK => ?_)); go_simp; refine hK _ ?_; clear hK K) | ((with_reducible refine wpL_q (fun K hK => ?_)); go_simp; (first | refine hK _ ?_ | (go_bits; refine hK _ ?_) | (go_bits; go_simp; refine hK _ ?_)); clear hK K))
      with_reducible refine wpL_g rfl (fun K hK st5 u5 mv5 => ?_)
      have hu5 := mv5.below
      have fu5 := fd4.mv mv5
      clear mv5
      have j6 : Below w1.heap.size w1 u5 := j5.trans (hu5.mono j5.size)
      go_simp
      refine (joined_any A B q ca nb c2 gs ts xs ms _ ((hSH.out.A.below RPl.stable hb10.out).below RPl.stable j6) (hrd2H.out.below RPl.stable hu5) h2H.out hnbb hb0).mono ?_
      rintro e w3 ⟨D, c3, rfl, hown3, hb3⟩
      refine ⟨_, rfl, hb3, hK _ _ _ ?_⟩
      clear hK K
      rw [hzlH.out] at hown3
      rw [hzlH.out]
      have hown30 := ownsRow_baseU hown3 (show w.heap.size ≤ u5.heap.size by have := j6.size; omega)
      have fd5 := fu5.below hb3
      have j7 : Below w1.heap.size w1 w3 := j6.trans (hb3.mono j6.size)
      repeat (first | ((with_reducible refine wpL_p (fun K hK => ?_)); go_simp; refine hK _ ?_; clear hK K) | ((with_reducible refine wpL_q (fun K hK => ?_)); go_simp; (first | refine hK _ ?_ | (go_bits; refine hK _ ?_) | (go_bits; go_simp; refine hK _ ?_)); clear hK K))
      with_reducible refine wpL_nil (fun b12 w5 mvF => ?_)
      have huF := mvF.below
      obtain ⟨fl9, fb9⟩ := (fd5.mv mvF).2 _ rfl
      have j8 : Below w1.heap.size w1 w5 := j7.trans (huF.mono j7.size)
      clear mvF
      simp only [World.size_drew] at fl9
      have rF : w5.rowIs b12 31 1 (fun i => (#[.slice none 0 0] : Array Value).getD i undef) := ⟨_, fb9, rfl, fun i hi => by simp [hi]⟩
      have f0 : w5.cell? ⟨b12, 0, none⟩ = some (.slice none 0 0) := rF.cell (i := 0) (by decide)
      have f1 : w5.frozen? ⟨b12, 0, none⟩ = false := rF.frozen 0
      have lF : b12 < w5.heap.size := (Array.getElem?_eq_some_iff.1 fb9).1
      have hown5 := ownsRow_below hown30 huF
      have hneF := own_ne_row hown5 rF (by decide)
      have n4 : ¬ w.heap.size + 1 + 1 + 1 + 1 = b12 := by omega
      replace y4 := (j8.cell (p := ⟨w.heap.size + 1 + 1 + 1 + 1, 0, none⟩) l4).trans y4
      replace k4 := (j8.frozen (p := ⟨w.heap.size + 1 + 1 + 1 + 1, 0, none⟩) l4).trans k4
      replace l4 : w.heap.size + 1 + 1 + 1 + 1 < w5.heap.size := by have := j8.size; omega
      have hbw5 := Lib.hid (hb10.out.trans (j8.mono hb10.out.size))
      have hown6 := Lib.hid (ownsRow_setCell_other hown5 (a := ⟨b12, 0, none⟩) hneF (.slice D (q + nb) c3))
      have gb : w.heap.size ≤ b12 := by omega
      clear fu4 fd4 hu4 huF hb2 j4 j5 j6 j7 j8 fb9 rF hown5 hown30 hown3 hneF fu5 fd5 hu5 hb3 hrd2 y0 y1 y2 y3 y3' l0 l1 l2 l3
      simp only [flPtr]
      with_reducible refine wpD_b (fun K hK => ?_)
      go_simp
      refine hK _ _ ?_
      clear hK K
      repeat (first | ((with_reducible refine wpD_p (fun K hK => ?_)); go_simp; refine hK _ ?_; clear hK K) | ((with_reducible refine wpD_q (fun K hK => ?_)); go_simp; (first | refine hK _ ?_ | (go_bits; refine hK _ ?_) | (go_bits; go_simp; refine hK _ ?_)); clear hK K))
      with_reducible refine wpD_nil ?_
      have hbw6 := Lib.hid (hbw5.out.setCell (p := ⟨b12, 0, none⟩) (by simp; omega) (.slice D (q + nb) c3))
      have z0 : (w5.setCell ⟨b12, 0, none⟩ (.slice D (q + nb) c3)).cell? ⟨b12, 0, none⟩ = some (.slice D (q + nb) c3) := by go_simp
      have z4 : (w5.setCell ⟨b12, 0, none⟩ (.slice D (q + nb) c3)).cell? ⟨w.heap.size + 1 + 1 + 1 + 1, 0, none⟩ = some (.slice none 0 0) := by go_simp
      have z5 : (w5.setCell ⟨b12, 0, none⟩ (.slice D (q + nb) c3)).frozen? ⟨w.heap.size + 1 + 1 + 1 + 1, 0, none⟩ = false := by go_simp
      have z6 : b12 < (w5.setCell ⟨b12, 0, none⟩ (.slice D (q + nb) c3)).heap.size := by simpa using lF
      have z7 : w.heap.size + 1 + 1 + 1 + 1 < (w5.setCell ⟨b12, 0, none⟩ (.slice D (q + nb) c3)).heap.size := by simpa using l4
      clear y4 k4 f0 f1 lF l4 hbw5
      generalize (w5.setCell ⟨b12, 0, none⟩ (.slice D (q + nb) c3)) = w6 at hown6 hbw6 z0 z4 z5 z6 z7 ⊢
      by_cases hbig : 500 < q + nb
      · have hbigI : (500 : Int) < (q : Int) + (nb : Int) := by omega
        have hbigI2 : (500 : Int) < ((q + nb : Nat) : Int) := by omega
        go_wp2
        refine bodyPost_ret (v := .tuple #[.agg #[.slice none 0 0], .int .i64 4]) (by simp only [results, Tryz.results31]; go_simp) rfl ?_
        exact AsmRes.lift (base := w.heap.size) (hfu.out hbig) rfl (World.ownsRow_nil _ _ _ _) (Nat.le_refl _) (hbw6.out.setCell (p := ⟨w.heap.size + 1 + 1 + 1 + 1, 0, none⟩) (by simp; omega) _)
      · have hbigI : ¬ (500 : Int) < (q : Int) + (nb : Int) := by omega
        have hbigI2 : ¬ (500 : Int) < ((q + nb : Nat) : Int) := by omega
        have hrd6 : RdSl 3 RPl w6 D (q + nb) (sortPl (xs ++ ms)) := rdPl hown6.out hzlH.out.symm
        have hrd6H := Lib.hid hrd6
        clear hrd6
        go_wp2_with fail
        refine (Normalize_any D (q + nb) c3 (sortPl (xs ++ ms)) e0 _ hrd6H.out (hVz.out hbig) he0H.out).mono ?_
        rintro e w7 ⟨E, c7, rfl, hown7, hb7⟩
        have hnmH := Lib.hid (hnm.out hbig)
        obtain ⟨r, hr⟩ : ∃ r, normE (sortPl (xs ++ ms)) = r := ⟨_, rfl⟩
        rw [hr] at hown7 hnmH ⊢
        have u4 := (hb7.cell (p := ⟨w.heap.size + 1 + 1 + 1 + 1, 0, none⟩) z7).trans z4
        have u5 := (hb7.frozen (p := ⟨w.heap.size + 1 + 1 + 1 + 1, 0, none⟩) z7).trans z5
        have u7 : w.heap.size + 1 + 1 + 1 + 1 < w7.heap.size := Nat.lt_of_lt_of_le z7 hb7.size
        have hown8 := Lib.hid (ownsRow_setCell_below hown7 (a := ⟨w.heap.size + 1 + 1 + 1 + 1, 0, none⟩) z7 (.slice E r.1.length c7))
        have hbw7 := Lib.hid (hbw6.out.trans (hb7.mono hbw6.out.size))
        have hge : w.heap.size ≤ w6.heap.size := by omega
        clear hb7 hown7 hr z0 z4 z5 z6 z7
        go_wp2
        refine bodyPost_ret (v := .tuple #[.agg #[.slice E r.1.length c7], .int .i64 r.2]) (by simp only [results, Tryz.results31]; go_simp) rfl ?_
        rw [← hnmH.out]
        exact ⟨E, c7, rfl, ownsRow_baseU hown8.out hge, hbw7.out.setCell (p := ⟨w.heap.size + 1 + 1 + 1 + 1, 0, none⟩) (by simp; omega) _⟩
  · have hrH := Lib.hid (combE_code (T := t) hj hk)
    have hk1 : (k != 0) = true := by simpa using hk
    clear hS hC hV hVb hj
    go_enter Tryz.func31, Tryz.ntmps31
    go_wp2_with fail
    refine (joinStrength_at (hSH.out.below (by exact bel_)) (hCH.out.below RPl.stable (by exact bel_)) hVH.out hVbH.out hjH.out).mono ?_
    rintro e w1 ⟨rfl, hb1⟩
    have hb10 := Lib.hid (show Below w.heap.size w w1 by exact bel_)
    obtain ⟨chb1, fhb1, shb1, thb1⟩ := bcell hb1
    have s1 := shb1 w.heap.size (by go_simp)
    have s4 := shb1 (w.heap.size + 1 + 1 + 1 + 1) (by go_simp)
    go_wp2
    refine bodyPost_ret (v := .tuple #[.agg #[.slice none 0 0], .int .i64 k]) (by simp only [results, Tryz.results31]; go_simp) rfl ?_
    exact AsmRes.lift (base := w.heap.size) hrH.out rfl (World.ownsRow_nil _ _ _ _) (Nat.le_refl _) (hb10.out.setCell (p := ⟨w.heap.size + 1 + 1 + 1 + 1, 0, none⟩) (by simp; omega) _)
end Go.Proofs.YtpdpkanlmhigfaaGreat
/- Walks: a pair of hands without assemblies; the items of the single tiles; the last item. -/


namespace Go.Proofs.YtpdpkanlmhigfaaGreat
open Go.RowKit Go.Shelf
attribute [local go_sem] BelowBy.cell BelowBy.cell_drew stillUpon givesUpon BelowBy.cell_drew2 BelowBy.cell_drew3

theorem infoAsmV : (Tryz.prog.info? 31).map (fun i => (i.zero, i.size, i.bytes)) = some (some (.agg #[.slice none 0 0]), 1, 24) := by kernel_rfl
theorem cell_one_newV (w : World) (a : Value) (t : TypeId) : ∀ j u, [a][j]? = some u → (w.alloc (Obj.cells #[a] t)).cell? ((⟨w.heap.size, 0, none⟩ : Addr).add j) = some u := by
  intro j u hj
  match j, hj with
  | 0, hj => simp at hj; subst hj; simp [Addr.add]
  | j + 1, hj => simp at hj
set_option maxRecDepth 100000 in
theorem IndexFuncA_nil (fv : Value) (w : World) :
    Calls Tryz.prog 83 #[.slice none 0 0, fv] w fun e w' => e = .returned (.int .i64 (-1)) ∧ Below w.heap.size w w' := by
  go_enter Tryz.func83, Tryz.ntmps83
  go_wp2
  go_loopg [8] 1 (fun g x wr => g = 1 ∧ x = .int .i64 0 ∧ Below w.heap.size w wr)
  case atStart => exact ⟨rfl, by go_num, bl_refl _⟩
  case round =>
    obtain ⟨hg, rfl, hb⟩ := hrel
    go_wp2
    go_ret
    exact ⟨rfl, hb⟩
set_option maxRecDepth 100000 in
theorem ContainsFuncA_nil (fv : Value) (w : World) :
    Calls Tryz.prog 55 #[.slice none 0 0, fv] w fun e w' => e = .returned (.bool false) ∧ Below w.heap.size w w' := by
  go_enter Tryz.func55, Tryz.ntmps55
  go_wp2_with (go_at_call 83; refine (IndexFuncA_nil _ _).mono ?_; rintro e w1 ⟨rfl, hb1⟩)
  go_ret
  refine ⟨rfl, ?_⟩
  exact bel_
def code0 (gs : List Gl) (ts : List Ti) (t : Int) : Int := if validSetB gs ts = false then 1 else if inB t 1 16 = false then 2 else 0
set_option maxRecDepth 100000 in
set_option maxHeartbeats 1000000 in
theorem handsCode_nil {G T : Option Addr} {n cg m ct : Nat} {gs : List Gl} {ts : List Ti} {t : Int} {w : World} (h : TS w G n T m gs ts) :
    Calls Tryz.prog 28 #[.agg #[.slice G n cg, .slice T m ct, .int .i64 t], .slice none 0 0] w fun e w' => e = .returned (.int .i64 (code0 gs ts t)) ∧ Below w.heap.size w w' := by
  have hH := Lib.hid h
  clear h
  cases hs : validSetB gs ts
  · have hR := Lib.hid (show code0 gs ts t = 1 from if_pos hs)
    have hsH := Lib.hid hs
    clear hs
    go_enter Tryz.func28, Tryz.ntmps28
    go_wp2_with (go_at_call 54; refine (TS.valid (hH.out.below (by exact bel_)) hsH.out).mono ?_; rintro e w1 ⟨rfl, hb1⟩; obtain ⟨chb1, fhb1, shb1, thb1⟩ := bcell hb1; have s1 := shb1 w.heap.size (by go_simp))
    go_ret
    exact ⟨ret_int hR.out.symm, by exact bel_⟩
  · cases ht : inB t 1 16
    all_goals
      have hR := Lib.hid (show code0 gs ts t = (if inB t 1 16 = false then 2 else 0) from if_neg (by rw [hs]; decide))
      have hsH := Lib.hid hs
      have htH := Lib.hid ht
      clear hs ht
      go_enter Tryz.func28, Tryz.ntmps28
      go_wp2_with (first
        | (go_at_call 54; refine (TS.valid (hH.out.below (by exact bel_)) hsH.out).mono ?_; rintro e w1 ⟨rfl, hb1⟩; obtain ⟨chb1, fhb1, shb1, thb1⟩ := bcell hb1; have s1 := shb1 w.heap.size (by go_simp))
        | (go_at_call 55; refine (ContainsFuncA_nil _ _).mono ?_; rintro e w2 ⟨rfl, hb2⟩; obtain ⟨chb2, fhb2, shb2, thb2⟩ := bcell hb2; have s2 := shb2 w.heap.size (by go_simp))
        | (go_at_call 58; refine (isTempH_at htH.out).mono ?_; rintro e _ ⟨rfl, rfl⟩))
      go_ret
      exact ⟨ret_int (by rw [hR.out, htH.out]; rfl), by exact bel_⟩
theorem own_one (W : World) (k : Nat) (base : Nat) (hb : base ≤ W.heap.size) : (W.alloc (Obj.cells #[.int .i64 0, .int .i64 0, .int .i64 (k : Int)] 97)).ownsRow base 97 3 (.slice (some ⟨W.heap.size, 0, none⟩) 1 1) 1 (plCells (oneL k)) := by
  have := World.ownsRow_lit (base := base) (e := 97) (size := 3) W #[.int .i64 0, .int .i64 0, .int .i64 (k : Int)] 1 hb (by decide) rfl
  exact this
set_option maxRecDepth 100000 in
theorem single_any (k : Nat) (w : World) :
    Calls Tryz.prog 59 #[.int .i64 (k : Int)] w (OwnAsm w (oneL k)) := by
  go_enter Tryz.func59, Tryz.ntmps59
  go_wp2
  refine bodyPost_ret (v := .agg #[.slice (some ⟨w.heap.size + 1, 0, none⟩) 1 1]) (by simp only [results, Tryz.results59]; go_simp) rfl ?_
  refine ⟨some ⟨w.heap.size + 1, 0, none⟩, 1, rfl, ?_, by exact bel_⟩
  have := own_one (w.alloc (Obj.cells #[.slice (some ⟨w.heap.size + 1, 0, none⟩) 1 1] 31)) k w.heap.size (by simp)
  rw [show (oneL k).length = 1 from rfl]
  simpa using this
set_option maxRecDepth 100000 in
theorem l29Single_any (k : Nat) (w : World) :
    Calls Tryz.prog 21 #[.int .i64 (k : Int)] w (OwnAsm w (oneL k)) := by
  go_enter Tryz.func21, Tryz.ntmps21
  go_wp2
  refine bodyPost_ret (v := .agg #[.slice (some ⟨w.heap.size + 1, 0, none⟩) 1 1]) (by simp only [results, Tryz.results21]; go_simp) rfl ?_
  refine ⟨some ⟨w.heap.size + 1, 0, none⟩, 1, rfl, ?_, by exact bel_⟩
  have := own_one (w.alloc (Obj.cells #[.slice (some ⟨w.heap.size + 1, 0, none⟩) 1 1] 31)) k w.heap.size (by simp)
  rw [show (oneL k).length = 1 from rfl]
  simpa using this
/-- a row of items that a call has made -/
def Items (w : World) (base : Nat) (v : Value) (us : List Value) (L : List (List Pl)) : Prop := Own2 w base 31 97 3 v us (L.map plCells)
theorem Items.len {w : World} {base : Nat} {v : Value} {us : List Value} {L : List (List Pl)} (h : Items w base v us L) : us.length = L.length := (Own2.len h).trans (List.length_map _)
/-- one more item -/
theorem Items.push {w1 w' : World} {base : Nat} {v v' x : Value} {us : List Value} {L : List (List Pl)} {Z : List Pl} {lo : Nat} (h : Items w1 base v us L) (hx : w1.ownsRow lo 97 3 x Z.length (plCells Z))
    (hlo : base ≤ lo) (hold : ∀ g, (v.ownBlock = some g ∨ ∃ (k : Nat) (u : Value), us[k]? = some u ∧ u.ownBlock = some g) → g < lo)
    (hown : w'.ownsRow base 31 1 v' (us.length + 1) (us ++ [x])) (hg : w1.grownBy w' v.ownBlock) (hat : v'.ownBlock = v.ownBlock ∨ v'.ownBlock = some w1.heap.size) : Items w' base v' (us ++ [x]) (L ++ [Z]) := by
  unfold Items
  rw [List.map_append]
  refine Own2.push h rfl (ownsRow_baseU hx hlo) (fun g hgx => ?_) hown hg hat
  have h1 := (hx.lt g hgx).1
  exact ⟨fun hc => by have := hold g (Or.inl hc); omega, fun k u hu hc => by have := hold g (Or.inr ⟨k, u, hu, hc⟩); omega⟩
theorem Items.old {w : World} {base : Nat} {v : Value} {us : List Value} {L : List (List Pl)} (h : Items w base v us L) : ∀ g, (v.ownBlock = some g ∨ ∃ (k : Nat) (u : Value), us[k]? = some u ∧ u.ownBlock = some g) → g < w.heap.size := by
  rintro g (hv | ⟨k, u, hu, hg⟩)
  · exact (Own2.lt h g hv).2
  · exact (Own2.ltIn h hu g hg).2
set_option maxRecDepth 100000 in
set_option maxHeartbeats 4000000 in
theorem singles_any {G T : Option Addr} {n cg m ct : Nat} {gs : List Gl} {ts : List Ti} {t : Int} {w : World} (h : TS w G n T m gs ts) (hm : m ≤ 160) :
    Calls Tryz.prog 29 #[.agg #[.slice G n cg, .slice T m ct, .int .i64 t]] w fun e w' => ∃ v us, e = .returned v ∧ Items w' w.heap.size v us (singL m) ∧ Below w.heap.size w w' := by
  obtain ⟨i3, hi3, hz03, hz13, hz23⟩ := info_parts infoAsmV
  clear h
  go_enter Tryz.func29, Tryz.ntmps29
  go_wp2_with fail
  go_loopg [9, 3] m (fun g x y wr => ∃ (k : Nat) (v : Value) (us : List Value), k + g = m ∧ x = .int .i64 (k : Int) ∧ v = y ∧ Hid (Items wr (w.heap.size + 1) v us (singL k)) ∧ Hid (Below w.heap.size w wr) ∧ w.heap.size < wr.heap.size)
  case atStart => exact ⟨0, .slice none 0 0, [], by omega, rfl, rfl, Lib.hid (Own2.nil _ _ _ _ _), Lib.hid (by exact bel_), by simp⟩
  case round =>
    obtain ⟨k, v, us, hk, rfl, rfl, hI, hbw, hsz⟩ := hrel
    by_cases hkm : k < m
    · have hul : us.length = k := (Items.len hI.out).trans (singL_len k)
      go_wp2_with fail
      refine (single_any k _).mono ?_
      rintro e w2 ⟨B, c2, rfl, hown2, hb2⟩
      have hl1 : (oneL k).length = 1 := rfl
      rw [hl1] at hown2 ⊢
      have hI2 : Items w2 (w.heap.size + 1) v us (singL k) := Own2.below hI.out hb2
      have hb20 := Lib.hid (hbw.out.trans (hb2.mono (by omega)))
      have s2 := hb2.size
      have hown2H := Lib.hid hown2
      have hold := Lib.hid (Items.old hI.out)
      have hI2H := Lib.hid hI2
      clear hown2 hI2 hI hbw hb2
      go_wp2_with (at_builtin; refine wpList_append_own_at _ rfl _ _ 53 rfl (w.heap.size + 1) 31 i3 (.agg #[.slice none 0 0]) 1 24 Tryz.underlying53 hi3 hz03 hz13 hz23 rfl (by decide) _ us.length us rfl ((Own2.outer hI2H.out).alloc _) ⟨w2.heap.size, 0, none⟩ 1 1 [.slice B 1 c2] rfl rfl (cell_one_newV _ _ _) (fun x hx => by simp at hx; subst hx; rfl) (by unfold maxLen; omega) (by omega) (by simp; omega) ?_; intro v3 w3 hown3 hgrow _ hob; have hI3 := Lib.hid (Items.push (L := singL k) (Z := oneL k) (Own2.alloc hI2H.out (Obj.cells #[.slice B 1 c2] 31)) (hown2H.out.alloc (Obj.cells #[.slice B 1 c2] 31)) (show w.heap.size + 1 ≤ wr.heap.size by omega) hold.out hown3 hgrow hob); have hb3 := Lib.hid (hb20.out.trans (((Below.refl w.heap.size w2).alloc (by omega) _).grown hgrow (by simp; omega) (fun g e => by have := (Own2.lt hI2H.out g e).1; omega))); have s3 : w.heap.size < w3.heap.size := Nat.lt_of_lt_of_le (show w.heap.size < w2.heap.size by omega) (Nat.le_trans (by simp) hgrow.size); clear hown3 hgrow hob)
      go_roundg (m - (k + 1))
      case measure => omega
      case rel => exact ⟨k + 1, v3, _, by omega, by go_num, rfl, Lib.hid (by rw [singL_succ]; exact hI3.out), hb3, s3⟩
    · obtain rfl : k = m := by omega
      go_wp2
      go_ret
      exact ⟨_, us, rfl, Own2.rebase hI.out (by omega), hbw.out⟩
set_option maxRecDepth 100000 in
theorem last_any {g N c : Nat} {A : Option Addr} {na ca : Nat} {w : World} (hN : 0 < N) (hN2 : N ≤ 100000) (hg : g < w.heap.size) (hc : w.cell? ⟨g, N - 1, none⟩ = some (.slice A na ca)) :
    Calls Tryz.prog 33 #[.slice (some ⟨g, 0, none⟩) N c] w fun e w' => e = .returned (.agg #[.slice A na ca]) ∧ Below w.heap.size w w' := by
  obtain ⟨k, hk⟩ : ∃ k, N = k + 1 := ⟨N - 1, by omega⟩
  subst hk
  simp only [Nat.add_sub_cancel] at hc
  have hk1 : ((k + 1 : Nat) : Int) - 1 = (k : Int) := by omega
  have hw1 : IntKind.i64.wrap (k : Int) = (k : Int) := wrap_in (by omega) (by omega)
  have hk2 : (k : Int) < ((k + 1 : Nat) : Int) := by omega
  have hk3 : k < k + 1 := by omega
  go_enter Tryz.func33, Tryz.ntmps33
  go_wp2
  refine bodyPost_ret (v := .agg #[.slice A na ca]) (by simp only [results, Tryz.results33]; go_simp) rfl ?_
  exact ⟨rfl, by exact bel_⟩
end Go.Proofs.YtpdpkanlmhigfaaGreat
/- Walk: PlayMerges, the program. -/

namespace Go.Proofs.YtpdpkanlmhigfaaGreat
open Go.RowKit Go.Shelf
attribute [local go_sem] BelowBy.cell BelowBy.cell_drew stillUpon givesUpon BelowBy.cell_drew2 BelowBy.cell_drew3

def PlRes (w : World) (r : List Pl × Int × Int) (e : Ending) (w' : World) : Prop :=
  ∃ A c, e = .returned (.tuple #[.agg #[.slice A r.1.length c], .int .i64 r.2.1, .int .i64 r.2.2]) ∧ w'.ownsRow w.heap.size 97 3 (.slice A r.1.length c) r.1.length (plCells r.1) ∧ Below w.heap.size w w'
theorem PlRes.lift {w w' : World} {r : List Pl × Int × Int} {base n : Nat} {i c : Int} {bs : List Pl} {A : Option Addr} {cap : Nat} (h : (bs, i, c) = r) (hn : bs.length = n) (hr : w'.ownsRow base 97 3 (.slice A n cap) n (plCells bs)) (hbase : w.heap.size ≤ base) (hb : Below w.heap.size w w') : PlRes w r (.returned (.tuple #[.agg #[.slice A n cap], .int .i64 i, .int .i64 c])) w' := by
  subst h hn
  exact ⟨A, cap, rfl, ownsRow_baseU hr hbase, hb⟩
/-- the item of number a is read -/
theorem Items.item {w : World} {base g N cap a : Nat} {us : List Value} {L : List (List Pl)} {xs : List Pl} (h : Items w base (.slice (some ⟨g, 0, none⟩) N cap) us L) (hN : us.length = N) (ha : L[a]? = some xs) :
    ∃ A ca, w.cell? ⟨g, a, none⟩ = some (.slice A xs.length ca) ∧ RdSl 3 RPl w A xs.length xs ∧ g < w.heap.size := by
  have hk := (List.getElem?_eq_some_iff.1 ha).1
  obtain ⟨u, hu⟩ : ∃ u, us[a]? = some u := ⟨_, List.getElem?_eq_getElem (by rw [Items.len h]; exact hk)⟩
  obtain ⟨n, r, hr, hown⟩ := Own2.get h hu
  rw [List.getElem?_map, ha] at hr
  obtain rfl := Option.some.inj hr
  have hn : n = xs.length := by have := hown.1; rw [plCells_len] at this; omega
  subst hn
  obtain ⟨A, ca, rfl, hrd⟩ := rdP_of_row hown
  obtain ⟨h1, _, h3⟩ := Own2.cellAt h hN hu
  exact ⟨A, ca, h1, hrd, h3⟩
theorem inB_nat {x : Int} {N : Nat} (h : inB x 0 ((N : Int) - 1) = true) : ∃ a : Nat, x = a ∧ a < N := by
  have := inB_true.1 h
  exact ⟨x.toNat, by omega, by omega⟩
theorem isIndex_at {i m : Int} {v : Bool} {w : World} (h0 : 0 ≤ m) (hm : m ≤ 140737488355328) (h : inB i 0 (m - 1) = v) :
    Calls Tryz.prog 30 #[.int .i64 i, .int .i64 m] w fun e w' => e = .returned (.bool v) ∧ w = w' := by
  rw [← h]; exact isIndex_any i m w h0 hm
theorem code0_val {gs : List Gl} {ts : List Ti} {t : Int} : (validSetB gs ts = false → code0 gs ts t = 1) ∧ (validSetB gs ts = true → inB t 1 16 = false → code0 gs ts t = 2) ∧ (validSetB gs ts = true → inB t 1 16 = true → code0 gs ts t = 0) := by
  unfold code0
  refine ⟨fun h => if_pos h, fun h k => by rw [if_neg (by rw [h]; decide), if_pos k], fun h k => by rw [if_neg (by rw [h]; decide), if_neg (by rw [k]; decide)]⟩
theorem handsCode_nil_at {G T : Option Addr} {n cg m ct : Nat} {gs : List Gl} {ts : List Ti} {t c : Int} {w : World} (h : TS w G n T m gs ts) (hc : code0 gs ts t = c) :
    Calls Tryz.prog 28 #[.agg #[.slice G n cg, .slice T m ct, .int .i64 t], .slice none 0 0] w fun e w' => e = .returned (.int .i64 c) ∧ Below w.heap.size w w' := by
  subst hc; exact handsCode_nil h
set_option maxRecDepth 100000 in
set_option maxHeartbeats 8000000 in
theorem PlayMerges_any (G : Option Addr) (n cg : Nat) (T : Option Addr) (m ct : Nat) (F : Option Addr) (nf cf : Nat) (gs : List Gl) (ts : List Ti) (t : Int) (ms : List Mr) (w : World) (h : TS w G n T m gs ts) (hF : RdSl 4 RMr w F nf ms) (hnf : nf ≤ 1073741824) :
    Calls Tryz.prog 9 #[.agg #[.slice G n cg, .slice T m ct], .int .i64 t, .slice F nf cf] w (PlRes w (playR gs ts t ms)) := by
  obtain ⟨i3, hi3, hz03, hz13, hz23⟩ := info_parts infoAsmV
  have hlm := h.T.len
  have hlf := hF.len
  have hlfH := Lib.hid hlf
  have hH := Lib.hid h
  have hFH := Lib.hid hF
  obtain ⟨c1, c2, c3⟩ := @code0_val gs ts t
  cases hs : validSetB gs ts
  · have hcd := Lib.hid (c1 hs)
    have hrH := Lib.hid (show (([], 0, 1) : List Pl × Int × Int) = playR gs ts t ms by unfold playR; rw [if_pos hs])
    clear h hF hlf c1 c2 c3 hs
    go_enter Tryz.func9, Tryz.ntmps9
    go_wp2_with fail
    refine (handsCode_nil_at (hH.out.below (by exact bel_)) hcd.out).mono ?_
    rintro e w1 ⟨rfl, hb1⟩
    have hb10 := Lib.hid (show Below w.heap.size w w1 by exact bel_)
    obtain ⟨chb1, fhb1, shb1, thb1⟩ := bcell hb1
    have s1 := shb1 (w.heap.size + 1) (by go_simp)
    go_wp2
    refine bodyPost_ret (v := .tuple #[.agg #[.slice none 0 0], .int .i64 0, .int .i64 1]) (by simp only [results, Tryz.results9]; go_simp) rfl ?_
    exact PlRes.lift (base := w.heap.size) hrH.out rfl (World.ownsRow_nil _ _ _ _) (Nat.le_refl _) (hb10.out.setCell (p := ⟨w.heap.size + 1, 0, none⟩) (by simp) _)
  · cases hT : inB t 1 16
    · have hcd := Lib.hid (c2 hs hT)
      have hrH := Lib.hid (show (([], 0, 2) : List Pl × Int × Int) = playR gs ts t ms by unfold playR; rw [if_neg (by rw [hs]; decide), if_pos hT])
      clear h hF hlf c1 c2 c3 hs hT
      go_enter Tryz.func9, Tryz.ntmps9
      go_wp2_with fail
      refine (handsCode_nil_at (hH.out.below (by exact bel_)) hcd.out).mono ?_
      rintro e w1 ⟨rfl, hb1⟩
      have hb10 := Lib.hid (show Below w.heap.size w w1 by exact bel_)
      obtain ⟨chb1, fhb1, shb1, thb1⟩ := bcell hb1
      have s1 := shb1 (w.heap.size + 1) (by go_simp)
      go_wp2
      refine bodyPost_ret (v := .tuple #[.agg #[.slice none 0 0], .int .i64 0, .int .i64 2]) (by simp only [results, Tryz.results9]; go_simp) rfl ?_
      exact PlRes.lift (base := w.heap.size) hrH.out rfl (World.ownsRow_nil _ _ _ _) (Nat.le_refl _) (hb10.out.setCell (p := ⟨w.heap.size + 1, 0, none⟩) (by simp) _)
    · have hcd := Lib.hid (c3 hs hT)
      have hT1 : 1 ≤ t := (inB_true.1 hT).1
      have hV0 := Lib.hid (valid_nil hs)
      have hm5 : m ≤ 160 := by have := hV0.out.tl; omega
      have hm0 : 0 < m := by
        have := hs
        unfold validSetB at this
        simp only [Bool.and_eq_true, decide_eq_true_eq] at this
        omega
      by_cases hbig : 200 < nf
      · have hrH := Lib.hid (show (([], 0, 2) : List Pl × Int × Int) = playR gs ts t ms by unfold playR; rw [if_neg (by rw [hs]; decide), if_neg (by rw [hT]; decide), if_pos (by omega)])
        have hbigI : (200 : Int) < (nf : Int) := by omega
        clear h hF hlf c1 c2 c3 hs hT
        go_enter Tryz.func9, Tryz.ntmps9
        go_wp2_with fail
        refine (handsCode_nil_at (hH.out.below (by exact bel_)) hcd.out).mono ?_
        rintro e w1 ⟨rfl, hb1⟩
        have hb10 := Lib.hid (show Below w.heap.size w w1 by exact bel_)
        obtain ⟨chb1, fhb1, shb1, thb1⟩ := bcell hb1
        have s1 := shb1 (w.heap.size + 1) (by go_simp)
        go_wp2
        refine bodyPost_ret (v := .tuple #[.agg #[.slice none 0 0], .int .i64 0, .int .i64 2]) (by simp only [results, Tryz.results9]; go_simp) rfl ?_
        exact PlRes.lift (base := w.heap.size) hrH.out rfl (World.ownsRow_nil _ _ _ _) (Nat.le_refl _) (hb10.out.setCell (p := ⟨w.heap.size + 1, 0, none⟩) (by simp) _)
      · have hR0 : playG gs ts t (singL ts.length) ms 0 = playR gs ts t ms := by unfold playR; rw [if_neg (by rw [hs]; decide), if_neg (by rw [hT]; decide), if_neg (by omega)]
        rw [hlm] at hR0
        have hR0H := Lib.hid hR0
        obtain ⟨R, hR⟩ : ∃ R, playR gs ts t ms = R := ⟨_, rfl⟩
        rw [hR] at hR0H ⊢
        have hbigI : ¬ (200 : Int) < (nf : Int) := by omega
        clear h hF hlf c1 c2 c3 hs hT hR0 hR
        go_enter Tryz.func9, Tryz.ntmps9
        go_wp2_with fail
        refine (handsCode_nil_at (hH.out.below (by exact bel_)) hcd.out).mono ?_
        rintro e w1 ⟨rfl, hb1⟩
        have hb10 := Lib.hid (show Below w.heap.size w w1 by exact bel_)
        have r0 : w1.cell? ⟨w.heap.size + 1, 0, none⟩ = some (.slice none 0 0) := (hb1.cell (p := ⟨w.heap.size + 1, 0, none⟩) (by simp)).trans (by go_simp)
        have rf : w1.frozen? ⟨w.heap.size + 1, 0, none⟩ = false := (hb1.frozen (p := ⟨w.heap.size + 1, 0, none⟩) (by simp)).trans (by go_simp)
        have y0 : w1.cell? ⟨w.heap.size + 1 + 1, 0, none⟩ = some (.slice G n cg) := (hb1.cell (p := ⟨w.heap.size + 1 + 1, 0, none⟩) (by simp)).trans (by go_simp)
        have y1 : w1.cell? ⟨w.heap.size + 1 + 1, 1, none⟩ = some (.slice T m ct) := (hb1.cell (p := ⟨w.heap.size + 1 + 1, 1, none⟩) (by simp)).trans (by go_simp)
        have y2 : w1.cell? ⟨w.heap.size + 1 + 1, 2, none⟩ = some (.int .i64 t) := (hb1.cell (p := ⟨w.heap.size + 1 + 1, 2, none⟩) (by simp)).trans (by go_simp)
        have s1 : w.heap.size + 3 ≤ w1.heap.size := by have := hb1.size; simp at this; omega
        have l2 : w.heap.size + 1 + 1 < w1.heap.size := by omega
        clear hb1
        go_wp2_with fail
        refine (singles_any (hH.out.below hb10.out) hm5).mono ?_
        rintro e w2 ⟨v2, us2, rfl, hI2, hb2⟩
        have hr0H := Lib.hid ((hb2.cell (p := ⟨w.heap.size + 1, 0, none⟩) (by simp; omega)).trans r0)
        have hrfH := Lib.hid ((hb2.frozen (p := ⟨w.heap.size + 1, 0, none⟩) (by simp; omega)).trans rf)
        have hy0H := Lib.hid ((hb2.cell (p := ⟨w.heap.size + 1 + 1, 0, none⟩) l2).trans y0)
        have hy1H := Lib.hid ((hb2.cell (p := ⟨w.heap.size + 1 + 1, 1, none⟩) l2).trans y1)
        have hy2H := Lib.hid ((hb2.cell (p := ⟨w.heap.size + 1 + 1, 2, none⟩) l2).trans y2)
        have s2 := hb2.size
        have hb20 := Lib.hid (hb10.out.trans (hb2.mono (by omega)))
        have hI2H := Lib.hid hI2
        have hval0 : Hid (∀ l ∈ singL m, Valid gs ts l) := Lib.hid (fun l hl => by
          unfold singL at hl
          obtain ⟨k, hk, rfl⟩ := List.mem_map.1 hl
          exact valid_one hV0.out (by have := List.mem_range.1 hk; omega))
        have hlen0 : (singL m).length = m := singL_len m
        clear r0 rf y0 y1 y2 l2 hb2 hI2
        go_wp2_with fail
        go_loopg [33, 11] nf (fun g x y wr => ∃ (k : Nat) (v : Value) (us : List Value) (L : List (List Pl)), k + g = nf ∧ x = .int .i64 (k : Int) ∧ v = y ∧ L.length = m + k ∧ Hid (Items wr w1.heap.size v us L) ∧ Hid (playG gs ts t L (ms.drop k) k = R) ∧ Hid (∀ l ∈ L, Valid gs ts l) ∧ Hid (Below w1.heap.size w2 wr))
        case atStart => exact ⟨0, v2, us2, singL m, by omega, rfl, rfl, by omega, hI2H, hR0H, hval0, Lib.hid (Below.refl _ _)⟩
        case round =>
          clear hI2H hval0 hlen0 hR0H
          obtain ⟨k, v, us, L, hk, rfl, rfl, hLl, hI, hpl, hval, hbw⟩ := hrel
          have swr := hbw.out.size
          have r0 : wr.cell? ⟨w.heap.size + 1, 0, none⟩ = some (.slice none 0 0) := (hbw.out.cell (p := ⟨w.heap.size + 1, 0, none⟩) (by simp; omega)).trans hr0H.out
          have rf : wr.frozen? ⟨w.heap.size + 1, 0, none⟩ = false := (hbw.out.frozen (p := ⟨w.heap.size + 1, 0, none⟩) (by simp; omega)).trans hrfH.out
          have hul : us.length = m + k := (Items.len hI.out).trans hLl
          obtain ⟨N, hN⟩ : ∃ N, m + k = N := ⟨_, rfl⟩
          rw [hN] at hul hLl
          have hN0 : 0 < N := by omega
          have hN5 : N ≤ 360 := by omega
          have hulH := Lib.hid hul
          have hLlH := Lib.hid hLl
          obtain ⟨gI, cI, rfl⟩ := Own2.formPos hI.out hul hN0
          have hgI := (Own2.lt hI.out gI rfl)
          have l1 : w.heap.size + 1 < wr.heap.size := by omega
          have hbwr : Hid (Below w.heap.size w wr) := Lib.hid (hb20.out.trans (hbw.out.mono (by omega)))
          clear hul hLl
          by_cases hkn : k < nf
          · obtain ⟨e, he⟩ : ∃ e, ms[k]? = some e := ⟨_, List.getElem?_eq_getElem (by have := hlfH.out; omega)⟩
            obtain ⟨bF, oF, rfl, hbF, hcF⟩ := (hFH.out.below RMr.stable hbwr.out).ptr (by omega)
            obtain ⟨e0, e1, e2, e3⟩ := hcF k e he
            have heH := Lib.hid he
            have hNI : (0 : Int) ≤ (N : Int) := by omega
            have hNI2 : (N : Int) ≤ 140737488355328 := by omega
            clear he hcF
            cases hva : inB e.a 0 ((N : Int) - 1)
            · have hrH := Lib.hid (playG_fail hpl.out heH.out (stepM_a (items := L) (by rw [hLlH.out]; exact hva)) (by decide))
              have hvaH := Lib.hid hva
              clear hva
              go_wp2_with (go_at_call 30; refine (isIndex_at hNI hNI2 hvaH.out).mono ?_; rintro e' _ ⟨rfl, rfl⟩)
              refine bodyPost_ret (v := .tuple #[.agg #[.slice none 0 0], .int .i64 (k : Int), .int .i64 2]) (by simp only [results, Tryz.results9]; go_simp) rfl ?_
              exact PlRes.lift (base := w.heap.size) hrH.out rfl (World.ownsRow_nil _ _ _ _) (Nat.le_refl _) (by first | exact (hbwr.out.trans ((bl_al (bl_refl wr) _).mono (by omega))).setCell (p := ⟨w.heap.size + 1, 0, none⟩) (by simp) _ | exact (hbwr.out.setCell (p := ⟨w.heap.size + 1, 0, none⟩) (by simp) _).alloc (by simp; omega) _)
            · cases hvb : inB e.b 0 ((N : Int) - 1)
              · have hrH := Lib.hid (playG_fail hpl.out heH.out (stepM_b (items := L) (by rw [hLlH.out]; exact hvb)) (by decide))
                have hvaH := Lib.hid hva
                have hvbH := Lib.hid hvb
                clear hva hvb
                go_wp2_with (first
                  | (go_at_call 30; refine (isIndex_at hNI hNI2 hvaH.out).mono ?_; rintro e' _ ⟨rfl, rfl⟩)
                  | (go_at_call 30; refine (isIndex_at hNI hNI2 hvbH.out).mono ?_; rintro e' _ ⟨rfl, rfl⟩))
                refine bodyPost_ret (v := .tuple #[.agg #[.slice none 0 0], .int .i64 (k : Int), .int .i64 2]) (by simp only [results, Tryz.results9]; go_simp) rfl ?_
                exact PlRes.lift (base := w.heap.size) hrH.out rfl (World.ownsRow_nil _ _ _ _) (Nat.le_refl _) (by first | exact (hbwr.out.trans ((bl_al (bl_refl wr) _).mono (by omega))).setCell (p := ⟨w.heap.size + 1, 0, none⟩) (by simp) _ | exact (hbwr.out.setCell (p := ⟨w.heap.size + 1, 0, none⟩) (by simp) _).alloc (by simp; omega) _)
              · obtain ⟨a, hea, haN⟩ := inB_nat hva
                obtain ⟨b, heb, hbN⟩ := inB_nat hvb
                obtain ⟨xs, hxa⟩ : ∃ l, L[a]? = some l := ⟨_, List.getElem?_eq_getElem (by have := hLlH.out; omega)⟩
                obtain ⟨ys, hyb⟩ : ∃ l, L[b]? = some l := ⟨_, List.getElem?_eq_getElem (by have := hLlH.out; omega)⟩
                have hst := stepM_c (gs := gs) (ts := ts) (t := t) hea heb hxa hyb
                have hVx := Lib.hid (hval.out xs (List.mem_of_getElem? hxa))
                have hVy := Lib.hid (hval.out ys (List.mem_of_getElem? hyb))
                have hx5 : xs.length ≤ 500 := hVx.out.len
                have hy5 : ys.length ≤ 500 := hVy.out.len
                obtain ⟨A1, ca, i1, hrx, _⟩ := Items.item hI.out hulH.out hxa
                obtain ⟨A2, cb, i2, hry, _⟩ := Items.item hI.out hulH.out hyb
                obtain ⟨ZL, c, hr⟩ : ∃ ZL c, combE gs ts xs ys t e.x e.y = (ZL, c) := ⟨_, _, rfl⟩
                have hstH := Lib.hid (hst.trans hr)
                have hrH := Lib.hid hr
                have hvaH := Lib.hid hva
                have hvbH := Lib.hid hvb
                have hrxH := Lib.hid hrx
                have hryH := Lib.hid hry
                have haI : (a : Int) < (N : Int) := by omega
                have hbI : (b : Int) < (N : Int) := by omega
                rw [hea] at e0 hvaH
                rw [heb] at e1 hvbH
                have y0 : wr.cell? ⟨w.heap.size + 1 + 1, 0, none⟩ = some (.slice G n cg) := (hbw.out.cell (p := ⟨w.heap.size + 1 + 1, 0, none⟩) (by simp; omega)).trans hy0H.out
                have y1 : wr.cell? ⟨w.heap.size + 1 + 1, 1, none⟩ = some (.slice T m ct) := (hbw.out.cell (p := ⟨w.heap.size + 1 + 1, 1, none⟩) (by simp; omega)).trans hy1H.out
                have y2 : wr.cell? ⟨w.heap.size + 1 + 1, 2, none⟩ = some (.int .i64 t) := (hbw.out.cell (p := ⟨w.heap.size + 1 + 1, 2, none⟩) (by simp; omega)).trans hy2H.out
                have l2 : w.heap.size + 1 + 1 < wr.heap.size := by omega
                have hgr := hgI.2
                clear hva hvb hxa hyb hst hr hrx hry hea heb
                go_wp2_with (first
                  | (go_at_call 30; refine (isIndex_at hNI hNI2 hvaH.out).mono ?_; rintro e' _ ⟨rfl, rfl⟩)
                  | (go_at_call 30; refine (isIndex_at hNI hNI2 hvbH.out).mono ?_; rintro e' _ ⟨rfl, rfl⟩))
                obtain ⟨w3, hw3⟩ : ∃ W, W = wr.alloc (Obj.cells #[.int .i64 (a : Int), .int .i64 (b : Int), .int .i64 e.x, .int .i64 e.y] 58) := ⟨_, rfl⟩
                have hB3 : Below wr.heap.size wr w3 := by rw [hw3]; exact bl_al (bl_refl _) _
                have s3 : wr.heap.size + 1 ≤ w3.heap.size := by rw [hw3]; simp
                have x0 : w3.cell? ⟨wr.heap.size, 0, none⟩ = some (.int .i64 (a : Int)) := by rw [hw3]; go_simp
                have x1 : w3.cell? ⟨wr.heap.size, 1, none⟩ = some (.int .i64 (b : Int)) := by rw [hw3]; go_simp
                have x2 : w3.cell? ⟨wr.heap.size, 2, none⟩ = some (.int .i64 e.x) := by rw [hw3]; go_simp
                have x3 : w3.cell? ⟨wr.heap.size, 3, none⟩ = some (.int .i64 e.y) := by rw [hw3]; go_simp
                replace y0 := (hB3.cell (p := ⟨w.heap.size + 1 + 1, 0, none⟩) l2).trans y0
                replace y1 := (hB3.cell (p := ⟨w.heap.size + 1 + 1, 1, none⟩) l2).trans y1
                replace y2 := (hB3.cell (p := ⟨w.heap.size + 1 + 1, 2, none⟩) l2).trans y2
                replace i1 := (hB3.cell (p := ⟨gI, a, none⟩) hgr).trans i1
                replace i2 := (hB3.cell (p := ⟨gI, b, none⟩) hgr).trans i2
                replace r0 := (hB3.cell (p := ⟨w.heap.size + 1, 0, none⟩) l1).trans r0
                replace rf := (hB3.frozen (p := ⟨w.heap.size + 1, 0, none⟩) l1).trans rf
                rw [← hw3]
                have hB3H := Lib.hid hB3
                have lw : wr.heap.size < w3.heap.size := by omega
                replace l2 : w.heap.size + 1 + 1 < w3.heap.size := by omega
                replace l1 : w.heap.size + 1 < w3.heap.size := by omega
                replace hgr : gI < w3.heap.size := by omega
                clear hw3 e0 e1 e2 e3 hbF hB3
                refine wp_region_fl 17 [(0, .q), (1, .q), (2, .q), (3, .q), (4, .q), (5, .q), (6, .q), (7, .q), (8, .q), (9, .q), (10, .q), (11, .q), (12, .q), (13, .g), (14, .q), (15, .q), (16, .p)] [(18, .b), (19, .q)] _ (Obj.cells #[.slice none 0 0] 31) (by kernel_rfl) (by kernel_rfl) (by kernel_rfl) (by kernel_rfl) rfl (fun a w => ⟨rfl, by unfold flPtr; go_simp⟩) ?_
                simp only [pick, List.filterMap_cons, List.filterMap_nil, List.getElem?_toArray, List.getElem?_cons_zero, List.getElem?_cons_succ, Option.map_some]
                repeat (first | ((with_reducible refine wpL_p (fun K hK => ?_)); go_simp; refine hK _ ?_; clear hK K) | ((with_reducible refine wpL_q (fun K hK => ?_)); go_simp; (first | refine hK _ ?_ | (go_bits; refine hK _ ?_) | (go_bits; go_simp; refine hK _ ?_)); clear hK K))
                with_reducible refine wpL_g rfl (fun K hK st4 u4 mv4 => ?_)
                have hu4 := mv4.below
                have fu4 := (FlAt.none (Obj.cells #[.slice none 0 0] 31) (World.drew w3)).mv mv4
                have j4 : Below w3.heap.size w3 u4 := (Below.refl _ w3).drew.trans (hu4.mono (Nat.le_refl _))
                have j4w : Below wr.heap.size wr u4 := hB3H.out.trans (j4.mono (by omega))
                clear mv4
                go_simp
                refine (combine_any G T A1 A2 n cg m ct xs.length ca ys.length cb gs ts xs ys t e.x e.y _ (((hH.out.below hbwr.out).below j4w).sa (hrxH.out.below RPl.stable j4w) (by omega)) (hryH.out.below RPl.stable j4w) hVx.out hVy.out hT1).mono ?_
                rw [hrH.out]
                rintro e' w4 ⟨B, c5, rfl, hown4, hb4⟩
                refine ⟨_, rfl, hb4, hK _ _ _ ?_⟩
                clear hK K
                have fd4 := fu4.below hb4
                have j5w : Below wr.heap.size wr w4 := j4w.trans (hb4.mono j4w.size)
                have j5 : Below w3.heap.size w3 w4 := j4.trans (hb4.mono j4.size)
                have hown40 := ownsRow_baseU hown4 (show wr.heap.size ≤ u4.heap.size from j4w.size)
                repeat (first | ((with_reducible refine wpL_p (fun K hK => ?_)); go_simp; refine hK _ ?_; clear hK K) | ((with_reducible refine wpL_q (fun K hK => ?_)); go_simp; (first | refine hK _ ?_ | (go_bits; refine hK _ ?_) | (go_bits; go_simp; refine hK _ ?_)); clear hK K))
                with_reducible refine wpL_nil (fun b14 w5 mvF => ?_)
                have huF := mvF.below
                obtain ⟨fl9, fb9⟩ := (fd4.mv mvF).2 _ rfl
                have j8 : Below w3.heap.size w3 w5 := j5.trans (huF.mono j5.size)
                have j8w : Below wr.heap.size wr w5 := j5w.trans (huF.mono j5w.size)
                clear mvF
                simp only [World.size_drew] at fl9
                have rF : w5.rowIs b14 31 1 (fun i => (#[.slice none 0 0] : Array Value).getD i undef) := ⟨_, fb9, rfl, fun i hi => by simp [hi]⟩
                have f0 : w5.cell? ⟨b14, 0, none⟩ = some (.slice none 0 0) := rF.cell (i := 0) (by decide)
                have f1 : w5.frozen? ⟨b14, 0, none⟩ = false := rF.frozen 0
                have lF : b14 < w5.heap.size := (Array.getElem?_eq_some_iff.1 fb9).1
                have hown5 := ownsRow_below hown40 huF
                have hneF := own_ne_row hown5 rF (by decide)
                have n4 : ¬ w.heap.size + 1 = b14 := by omega
                replace r0 := (j8.cell (p := ⟨w.heap.size + 1, 0, none⟩) l1).trans r0
                replace rf := (j8.frozen (p := ⟨w.heap.size + 1, 0, none⟩) l1).trans rf
                have s8 := j8.size
                replace l1 : w.heap.size + 1 < w5.heap.size := by omega
                have hown6 := Lib.hid (ownsRow_setCell_other hown5 (a := ⟨b14, 0, none⟩) hneF (.slice B ZL.length c5))
                have hI5 : Items w5 w1.heap.size (.slice (some ⟨gI, 0, none⟩) N cI) us L := Own2.below hI.out j8w
                have hI6 : Hid (Items (w5.setCell ⟨b14, 0, none⟩ (.slice B ZL.length c5)) w1.heap.size (.slice (some ⟨gI, 0, none⟩) N cI) us L) := Lib.hid (Own2.kept (row := some b14) hI5 ⟨rfl, rfl, rfl, by simp, fun k hk hne => Below.heap_setCell _ _ _ _ (fun e => hne (by rw [e]))⟩ (fun g eg => by
                  injection eg with eg
                  subst eg
                  exact ⟨fun hc => by have := Items.old hI.out _ (Or.inl hc); omega, fun k u hu hc => by have := Items.old hI.out _ (Or.inr ⟨k, u, hu, hc⟩); omega⟩))
                have hbw6 := Lib.hid (hbw.out.trans ((j8w.setCell (p := ⟨b14, 0, none⟩) (by simp; omega) (.slice B ZL.length c5)).mono (show w1.heap.size ≤ wr.heap.size by omega)))
                have hbW6 := Lib.hid (hbwr.out.trans ((j8w.setCell (p := ⟨b14, 0, none⟩) (by simp; omega) (.slice B ZL.length c5)).mono (show w.heap.size ≤ wr.heap.size by omega)))
                clear fu4 fd4 hu4 huF hb4 j4 j5 j4w j5w j8 j8w fb9 rF hown5 hown40 hown4 hneF hI5 x0 x1 x2 x3 y0 y1 y2 i1 i2 l2 hgr
                simp only [flPtr]
                with_reducible refine wpD_b (fun K hK => ?_)
                go_simp
                refine hK _ _ ?_
                clear hK K
                repeat (first | ((with_reducible refine wpD_p (fun K hK => ?_)); go_simp; refine hK _ ?_; clear hK K) | ((with_reducible refine wpD_q (fun K hK => ?_)); go_simp; (first | refine hK _ ?_ | (go_bits; refine hK _ ?_) | (go_bits; go_simp; refine hK _ ?_)); clear hK K))
                with_reducible refine wpD_nil ?_
                have z0 : (w5.setCell ⟨b14, 0, none⟩ (.slice B ZL.length c5)).cell? ⟨b14, 0, none⟩ = some (.slice B ZL.length c5) := by go_simp
                have z4 : (w5.setCell ⟨b14, 0, none⟩ (.slice B ZL.length c5)).cell? ⟨w.heap.size + 1, 0, none⟩ = some (.slice none 0 0) := by go_simp
                have z5 : (w5.setCell ⟨b14, 0, none⟩ (.slice B ZL.length c5)).frozen? ⟨w.heap.size + 1, 0, none⟩ = false := by go_simp
                have z6 : b14 < (w5.setCell ⟨b14, 0, none⟩ (.slice B ZL.length c5)).heap.size := by simpa using lF
                have z7 : w.heap.size + 1 < (w5.setCell ⟨b14, 0, none⟩ (.slice B ZL.length c5)).heap.size := by simpa using l1
                have z8 : wr.heap.size ≤ (w5.setCell ⟨b14, 0, none⟩ (.slice B ZL.length c5)).heap.size := by simp; omega
                clear r0 rf f0 f1 lF l1 s8
                generalize (w5.setCell ⟨b14, 0, none⟩ (.slice B ZL.length c5)) = w6 at hown6 hI6 hbw6 hbW6 z0 z4 z5 z6 z7 z8 ⊢
                by_cases hc0 : c = 0
                · subst hc0
                  have hnx := Lib.hid (playG_next hpl.out heH.out hstH.out)
                  have hvn : Hid (∀ l ∈ L ++ [ZL], Valid gs ts l) := Lib.hid (fun l hl => by
                    rcases List.mem_append.1 hl with hl | hl
                    · exact hval.out l hl
                    · simp at hl; subst hl; exact combE_valid hVx.out hVy.out hT1 hrH.out)
                  have hold := Lib.hid (Items.old hI.out)
                  have hul2 := hulH.out
                  go_wp2_with (at_builtin; refine wpList_append_own_at _ rfl _ _ 53 rfl w1.heap.size 31 i3 (.agg #[.slice none 0 0]) 1 24 Tryz.underlying53 hi3 hz03 hz13 hz23 rfl (by decide) _ N us rfl (Own2.outerN (Own2.alloc hI6.out _) hul2) ⟨w6.heap.size, 0, none⟩ 1 1 [.slice B ZL.length c5] rfl rfl (cell_one_newV _ _ _) (fun x hx => by simp at hx; subst hx; rfl) (by unfold maxLen; omega) (by omega) (by simp; omega) ?_; intro v7 w7 hown7 hgrow _ hob; have hI7 := Lib.hid (Items.push (L := L) (Z := ZL) (Own2.alloc hI6.out (Obj.cells #[.slice B ZL.length c5] 31)) (hown6.out.alloc (Obj.cells #[.slice B ZL.length c5] 31)) (show w1.heap.size ≤ wr.heap.size by omega) hold.out (by rw [hul2]; exact hown7) hgrow hob); have hb7 := Lib.hid (hbw6.out.trans (((Below.refl w1.heap.size w6).alloc (by omega) _).grown hgrow (by simp; omega) (fun g e => (Own2.lt hI6.out g e).1))); clear hown7 hgrow hob)
                  go_roundg (nf - (k + 1))
                  case measure => omega
                  case rel => exact ⟨k + 1, v7, _, L ++ [ZL], by omega, by go_num, rfl, by rw [List.length_append, hLlH.out]; simp; omega, hI7, hnx, hvn, hb7⟩
                · have hrR := Lib.hid (playG_fail hpl.out heH.out hstH.out hc0)
                  have hc1 : (c != 0) = true := by simpa using hc0
                  go_wp2
                  refine bodyPost_ret (v := .tuple #[.agg #[.slice none 0 0], .int .i64 (k : Int), .int .i64 c]) (by simp only [results, Tryz.results9]; go_simp) rfl ?_
                  exact PlRes.lift (base := w.heap.size) hrR.out rfl (World.ownsRow_nil _ _ _ _) (Nat.le_refl _) (hbW6.out.setCell (p := ⟨w.heap.size + 1, 0, none⟩) (by simp) _)
          · obtain rfl : k = nf := by omega
            obtain ⟨xs, hxl⟩ : ∃ l, L[N - 1]? = some l := ⟨_, List.getElem?_eq_getElem (by have := hLlH.out; omega)⟩
            have hVx := hval.out xs (List.mem_of_getElem? hxl)
            have hx5 : xs.length ≤ 500 := hVx.len
            obtain ⟨A1, ca, i1, hrx, _⟩ := Items.item hI.out hulH.out hxl
            have hend := playG_end hpl.out (by have := hlfH.out; omega)
            rw [List.getLast?_eq_getElem?, hLlH.out, hxl] at hend
            have hendH := Lib.hid hend
            have hrxH := Lib.hid hrx
            clear hrx hxl hend
            go_wp2_with fail
            refine (last_any hN0 (by omega) hgI.2 i1).mono ?_
            rintro e' w3 ⟨rfl, hb3⟩
            have s3 := hb3.size
            replace r0 := (hb3.cell (p := ⟨w.heap.size + 1, 0, none⟩) l1).trans r0
            replace rf := (hb3.frozen (p := ⟨w.heap.size + 1, 0, none⟩) l1).trans rf
            have hrx3 := Lib.hid (hrxH.out.below RPl.stable hb3)
            have hbw3 := Lib.hid (hbwr.out.trans (hb3.mono (by omega)))
            replace l1 : w.heap.size + 1 < w3.heap.size := by omega
            clear hb3 i1
            go_wp2_with fail
            refine (cloneAssembly_any A1 xs.length ca xs _ (hrx3.out.below RPl.stable (by exact bel_)) (by omega)).mono ?_
            rintro e' w4 ⟨B, c4, rfl, hrow4, hb4⟩
            have hB4 : Below w3.heap.size w3 w4 := by exact bel_
            have s4 := hB4.size
            replace r0 := (hB4.cell (p := ⟨w.heap.size + 1, 0, none⟩) l1).trans r0
            replace rf := (hB4.frozen (p := ⟨w.heap.size + 1, 0, none⟩) l1).trans rf
            have hbw4 := Lib.hid (hbw3.out.trans (hB4.mono (by omega)))
            have hrow4H := Lib.hid (ownsRow_baseU hrow4 (show w.heap.size + 2 ≤ _ by simp; omega))
            replace l1 : w.heap.size + 1 < w4.heap.size := by omega
            clear hb4 hB4 hrow4
            go_wp2
            refine bodyPost_ret (v := .tuple #[.agg #[.slice B xs.length c4], .int .i64 0, .int .i64 0]) (by simp only [results, Tryz.results9]; go_simp) rfl ?_
            exact PlRes.lift (base := w.heap.size + 2) hendH.out rfl (ownsRow_setCell_below hrow4H.out (by simp) _) (by omega) (hbw4.out.setCell (p := ⟨w.heap.size + 1, 0, none⟩) (by simp) _)
end Go.Proofs.YtpdpkanlmhigfaaGreat
/- Walks: Combine, the program. -/

namespace Go.Proofs.YtpdpkanlmhigfaaGreat
open Go.RowKit Go.Shelf
attribute [local go_sem] BelowBy.cell BelowBy.cell_drew stillUpon givesUpon BelowBy.cell_drew2 BelowBy.cell_drew3

theorem validSet_of {gs : List Gl} {ts : List Ti} {xs : List Pl} (h : validAsmB gs ts xs = true) : validSetB gs ts = true := by
  unfold validAsmB at h
  simp only [Bool.and_eq_true] at h
  exact h.1
theorem codeH_two (gs : List Gl) (ts : List Ti) (xs ys : List Pl) (t : Int) : codeH gs ts [xs, ys] t = if askJ gs ts xs ys = false then 1 else if inB t 1 16 = false then 2 else 0 := by
  unfold codeH askJ
  have h2 : allB [xs, ys].length (okL gs ts [xs, ys]) = (validAsmB gs ts xs && validAsmB gs ts ys) := by
    simp [allB, okL, List.range_succ]
  rw [h2]
  cases hx : validAsmB gs ts xs
  · simp
  · rw [validSet_of hx]; simp
theorem lrow_two {w : World} {g : Nat} {A C : Option Addr} {q ca nb cb : Nat} {xs ys : List Pl} (hg : g < w.heap.size) (h0 : w.cell? ⟨g, 0, none⟩ = some (.slice A q ca)) (h1 : w.cell? ⟨g, 1, none⟩ = some (.slice C nb cb)) (hA : RdSl 3 RPl w A q xs) (hC : RdSl 3 RPl w C nb ys) (hq : q ≤ 1073741824) (hn : nb ≤ 1073741824) : LRow w g [xs, ys] := by
  refine ⟨hg, fun k l hk => ?_⟩
  rcases k with _ | _ | k
  · simp at hk; subst hk; exact ⟨A, q, ca, h0, hA, hq⟩
  · simp at hk; subst hk; exact ⟨C, nb, cb, h1, hC, hn⟩
  · simp at hk
end Go.Proofs.YtpdpkanlmhigfaaGreat
/- Walks: Combine, the reference. -/


namespace Go.Proofs.YtpdpkanlmhigfaaGreat
open Go.RowKit Go.Shelf
attribute [local go_sem] BelowBy.cell BelowBy.cell_drew stillUpon givesUpon BelowBy.cell_drew2 BelowBy.cell_drew3

theorem sTempH_at {t : Int} {v : Bool} {w : World} (h : inB t 1 16 = v) : Calls Tryz.prog 20 #[.int .i64 t] w fun e w' => e = .returned (.bool v) ∧ w = w' := by
  subst h
  go_enter Tryz.func20, Tryz.ntmps20
  go_wp2_with (go_at_call 22; refine (l00In_any _ _ _ _).mono ?_; rintro e _ ⟨rfl, rfl⟩)
  go_ret
  exact ⟨ret_bool rfl, rfl⟩
set_option maxRecDepth 100000 in
set_option maxHeartbeats 2000000 in
theorem l29Normal_any {gs : List Gl} {ts : List Ti} (p : Nat) (zs : List Pl) (e : Pl) (w : World) (ha : AsmAt w p 0 zs) (hV : Valid gs ts zs) (he : zs[0]? = some e) :
    Calls Tryz.prog 50 #[.pointer (some ⟨p, 0, none⟩)] w (MvOwn w (-e.x) (-e.y) zs) := by
  obtain ⟨hlt, ⟨A, n, c, h1, h2⟩⟩ := id ha
  have hl := h2.len
  have hn0 : 0 < n := by have := lt_of_get he; omega
  have hnI : (0 : Int) < (n : Int) := by omega
  have hn5 : zs.length ≤ 500 := hV.len
  have hpt := Lib.hid hV.pt
  obtain ⟨ex, ey⟩ := hV.pt 0 e he
  obtain ⟨b, o, rfl, hb, hc⟩ := h2.ptr hn0
  obtain ⟨c0, c1, c2⟩ := hc 0 e he
  simp only [Nat.zero_mul, Nat.add_zero] at c0 c1 c2
  have haH := Lib.hid ha
  have hlH := Lib.hid hl
  clear ha h2 hc hV he hl
  go_enter Tryz.func50, Tryz.ntmps50
  go_wp2_with fail
  refine (l03Move_own p zs (-e.x) (-e.y) _ (haH.out.below (by exact bel_)) (by omega) hpt.out (by omega) (by omega)).mono ?_
  rintro e' w1 ⟨B, m, c', rfl, hrow, hb1⟩
  have r0 : w1.cell? ⟨w.heap.size, 0, none⟩ = some (.slice none 0 0) := (hb1.cell (p := ⟨w.heap.size, 0, none⟩) (by simp; omega)).trans (by go_simp)
  have rf : w1.frozen? ⟨w.heap.size, 0, none⟩ = false := (hb1.frozen (p := ⟨w.heap.size, 0, none⟩) (by simp; omega)).trans (by go_simp)
  have hs1 : w.heap.size + 1 < w1.heap.size ∨ w.heap.size + 1 ≤ w1.heap.size := Or.inr (by have := hb1.size; simp at this; omega)
  have hs2 : w.heap.size < w1.heap.size := by have := hb1.size; simp at this; omega
  have hbw1 := Lib.hid (show Below w.heap.size w w1 by exact bel_)
  obtain ⟨v, hv⟩ : ∃ v, mvOk (-e.x) (-e.y) zs = v := ⟨_, rfl⟩
  rw [hv] at hrow ⊢
  have hvH := Lib.hid hv
  have hrowH := Lib.hid hrow
  clear hb1 hrow hv
  go_wp2
  refine bodyPost_ret (v := .tuple #[.agg #[.slice B m c'], .bool v]) (by simp only [results, Tryz.results50]; go_simp) rfl ?_
  refine ⟨B, m, c', by rw [hvH.out], fun ho => ?_, hbw1.out.setCell (p := ⟨w.heap.size, 0, none⟩) (by simp) _⟩
  obtain ⟨rfl, hrw⟩ := hrowH.out (hvH.out.symm.trans ho)
  refine ⟨rfl, ownsRow_baseU (base := w.heap.size + 1) (ownsRow_setCell_below ?_ (by simp) _) (by omega)⟩
  exact ownsRow_baseU hrw (by simp)
theorem l29Moved_at {p op : Nat} {xs : List Pl} {dx dy : Int} {v : Bool} {w : World} (ha : AsmAt w p op xs) (hn : xs.length ≤ 100000) (hxy : ∀ (k : Nat) (e : Pl), xs[k]? = some e → (-60 ≤ e.x ∧ e.x ≤ 60) ∧ (-60 ≤ e.y ∧ e.y ≤ 60)) (hv : okM dx dy xs = v) :
    Calls Tryz.prog 47 #[.pointer (some ⟨p, op, none⟩), .agg #[.int .i64 dx, .int .i64 dy]] w fun e w' => ∃ B m c', e = .returned (.tuple #[.agg #[.slice B m c'], .bool v]) ∧ (v = true → m = xs.length ∧ RdSl 3 RPl w' B m (mvL dx dy xs)) ∧ Below w.heap.size w w' := by
  subst hv; exact l29Moved_any p xs dx dy w ha hn hxy
theorem l29Strength_at {p pa pc opa opc : Nat} {gs : List Gl} {ts : List Ti} {xs ms : List Pl} {s k : Int} {w : World} (h : SAt w p 0 pa opa gs ts xs) (hc : AsmAt w pc opc ms) (hV : Valid gs ts xs) (hml : ms.length ≤ 500)
    (hpt : ∀ (k : Nat) (e : Pl), ms[k]? = some e → (-60 ≤ e.x ∧ e.x ≤ 60) ∧ (-60 ≤ e.y ∧ e.y ≤ 60) ∧ ∃ t : Nat, e.t = t ∧ t < ts.length) (hj : joinE gs ts xs ms = (s, k)) :
    Calls Tryz.prog 48 #[.pointer (some ⟨p, 0, none⟩), .pointer (some ⟨pa, opa, none⟩), .pointer (some ⟨pc, opc, none⟩)] w fun e w' => e = .returned (.tuple #[.int .i64 s, .int .i64 k]) ∧ Below w.heap.size w w' := by
  have := l29Strength_any p pa pc gs ts xs ms w h hc hV hml hpt
  rw [hj] at this
  exact this
theorem joinM_split {gs : List Gl} {ts : List Ti} {xs ys : List Pl} {dx dy : Int} : (okM dx dy ys = false → joinM gs ts xs ys dx dy = (0, 2)) ∧ (okM dx dy ys = true → joinM gs ts xs ys dx dy = joinE gs ts xs (mvL dx dy ys) ∧ mvOk dx dy ys = true) := by
  unfold okM joinM
  cases hx : inB dx (-120) 120
  · simp
  · cases hy : inB dy (-120) 120
    · simp
    · cases hm : mvOk dx dy ys
      · simp
      · simp
set_option maxRecDepth 100000 in
set_option maxHeartbeats 4000000 in
theorem l29Combine_any {opa opb : Nat} (p pa pb : Nat) (gs : List Gl) (ts : List Ti) (xs ys : List Pl) (t dx dy : Int) (w : World) (hS : SAt w p 0 pa opa gs ts xs) (hb : AsmAt w pb opb ys) (hV : Valid gs ts xs) (hV2 : Valid gs ts ys) (ht : 1 ≤ t) :
    Calls Tryz.prog 23 #[.pointer (some ⟨p, 0, none⟩), .int .i64 t, .pointer (some ⟨pa, opa, none⟩), .pointer (some ⟨pb, opb, none⟩), .agg #[.int .i64 dx, .int .i64 dy]] w (AsmRes w (combE gs ts xs ys t dx dy)) := by
  have hl5 := hV.len
  have hlb5 := hV2.len
  have hSH := Lib.hid hS
  have hbH := Lib.hid hb
  have hVH := Lib.hid hV
  have hpt2 := Lib.hid hV2.pt
  have hsp := joinM_split (gs := gs) (ts := ts) (xs := xs) (ys := ys) (dx := dx) (dy := dy)
  cases ho : okM dx dy ys
  · have hrH := Lib.hid (combE_code (T := t) (hsp.1 ho) (by decide))
    have hoH := Lib.hid ho
    clear hS hb hV hV2 hsp ho
    go_enter Tryz.func23, Tryz.ntmps23
    go_wp2_with fail
    refine (l29Moved_at (hbH.out.below (by exact bel_)) (by omega) hpt2.out hoH.out).mono ?_
    rintro e w1 ⟨B, m', c', rfl, hrd, hb1⟩
    have hb10 := Lib.hid (show Below w.heap.size w w1 by exact bel_)
    obtain ⟨chb1, fhb1, shb1, thb1⟩ := bcell hb1
    have s1 := shb1 (w.heap.size + 1) (by go_simp)
    clear hrd
    go_wp2
    refine bodyPost_ret (v := .tuple #[.agg #[.slice none 0 0], .int .i64 2]) (by simp only [results, Tryz.results23]; go_simp) rfl ?_
    exact AsmRes.lift (base := w.heap.size) hrH.out rfl (World.ownsRow_nil _ _ _ _) (Nat.le_refl _) ((hb10.out.setCell (p := ⟨w.heap.size + 1, 0, none⟩) (by simp) _).alloc (by simp; omega) _)
  · obtain ⟨hje, hmv⟩ := hsp.2 ho
    obtain ⟨s, k, hj⟩ : ∃ s k, joinE gs ts xs (mvL dx dy ys) = (s, k) := ⟨_, _, rfl⟩
    have hjm := hje.trans hj
    have hml := mvL_len dx dy ys
    have hptm := Lib.hid (fun (k : Nat) (e : Pl) (h : (mvL dx dy ys)[k]? = some e) => mv_pt hV2 hmv h)
    have hoH := Lib.hid ho
    have hjH := Lib.hid hj
    by_cases hk : k = 0
    · subst hk
      by_cases hst : s < t
      · have hrH := Lib.hid (combE_weak hjm hst)
        clear hS hb hV hV2 hsp ho hje hmv hj hjm
        go_enter Tryz.func23, Tryz.ntmps23
        go_wp2_with fail
        refine (l29Moved_at (hbH.out.below (by exact bel_)) (by omega) hpt2.out hoH.out).mono ?_
        rintro e w1 ⟨B, m', c', rfl, hrd, hb1⟩
        obtain ⟨rfl, hrd⟩ := hrd rfl
        have hb10 := Lib.hid (show Below w.heap.size w w1 by exact bel_)
        have hrdH := Lib.hid hrd
        have s1 : w.heap.size + 1 < w1.heap.size := by have := hb1.size; simp at this; omega
        have y1 : w1.cell? ⟨w.heap.size + 1, 0, none⟩ = some (.slice none 0 0) := (hb1.cell (p := ⟨w.heap.size + 1, 0, none⟩) (by simp)).trans (by go_simp)
        have k1 : w1.frozen? ⟨w.heap.size + 1, 0, none⟩ = false := (hb1.frozen (p := ⟨w.heap.size + 1, 0, none⟩) (by simp)).trans (by go_simp)
        clear hrd hb1
        go_wp2_with fail
        refine (l29Strength_at (hSH.out.below (hb10.out.trans (show Below w.heap.size w1 _ from Below.mono (show Below w1.heap.size w1 _ by exact bel_) (by omega)))) ⟨by simp, B, ys.length, c', by go_simp, hrdH.out.below RPl.stable (by exact bel_)⟩ hVH.out (by omega) hptm.out hjH.out).mono ?_
        rintro e w2 ⟨rfl, hb2⟩
        have hb20 := Lib.hid (hb10.out.trans (show Below w.heap.size w1 w2 from Below.mono (show Below w1.heap.size w1 w2 by exact bel_) (by omega)))
        have s2 : w.heap.size + 1 < w2.heap.size := by have := hb2.size; simp at this; omega
        have y2 : w2.cell? ⟨w.heap.size + 1, 0, none⟩ = some (.slice none 0 0) := (hb2.cell (p := ⟨w.heap.size + 1, 0, none⟩) (by simp; omega)).trans (by go_simp)
        have k2 : w2.frozen? ⟨w.heap.size + 1, 0, none⟩ = false := (hb2.frozen (p := ⟨w.heap.size + 1, 0, none⟩) (by simp; omega)).trans (by go_simp)
        clear hb2 y1 k1
        go_wp2
        refine bodyPost_ret (v := .tuple #[.agg #[.slice none 0 0], .int .i64 5]) (by simp only [results, Tryz.results23]; go_simp) rfl ?_
        exact AsmRes.lift (base := w.heap.size) hrH.out rfl (World.ownsRow_nil _ _ _ _) (Nat.le_refl _) (hb20.out.setCell (p := ⟨w.heap.size + 1, 0, none⟩) (by simp) _)
      · obtain ⟨_, _, _, h2, hsum⟩ := joinM_ok hV hV2 hjm
        obtain ⟨e0, he0⟩ := join_first (xs := xs) ht hst hsum
        have hfu : Hid (500 < xs.length + ys.length → (([], 4) : List Pl × Int) = combE gs ts xs ys t dx dy) := Lib.hid (fun h => combE_full hjm hst h)
        have hnm : Hid (¬ 500 < xs.length + ys.length → normE (sortPl (xs ++ mvL dx dy ys)) = combE gs ts xs ys t dx dy) := Lib.hid (fun h => combE_norm hjm hst h)
        have hVz : Hid (¬ 500 < xs.length + ys.length → Valid gs ts (sortPl (xs ++ mvL dx dy ys))) := Lib.hid (fun h => h2.valid (by omega))
        have he0H := Lib.hid he0
        have h2H := Lib.hid h2
        obtain ⟨hlta, ⟨A, q, ca, ha1, ha2⟩⟩ := hS.a
        obtain ⟨hltb, ⟨C, nb, cb, hb1', hb2'⟩⟩ := hb
        have hq := ha2.len
        have hnb := hb2'.len
        have ha1H := Lib.hid ha1
        have hb1H := Lib.hid hb1'
        obtain ⟨ms, hms⟩ : ∃ ms, mvL dx dy ys = ms := ⟨_, rfl⟩
        rw [hms] at hml hptm hjH hnm hVz he0H h2H
        have hmsH := Lib.hid hms
        have hzl : (sortPl (xs ++ ms)).length = q + nb := by rw [sortPl_len, List.length_append, hml, hq, hnb]
        have hzlH := Lib.hid hzl
        have hq5 : q ≤ 500 := by omega
        have hnb5 : nb ≤ 500 := by omega
        clear hS hV hV2 hsp ho hje hmv hj hjm h2 hsum he0 ha1 ha2 hb1' hb2' hms hzl
        go_enter Tryz.func23, Tryz.ntmps23
        go_wp2_with fail
        refine (l29Moved_at (hbH.out.below (by exact bel_)) (by omega) hpt2.out hoH.out).mono ?_
        rintro e w1 ⟨B, m', c', rfl, hrd, hb1⟩
        obtain ⟨rfl, hrd⟩ := hrd rfl
        rw [hmsH.out] at hrd
        have hb10 := Lib.hid (show Below w.heap.size w w1 by exact bel_)
        have hrdH := Lib.hid hrd
        have s1 : w.heap.size + 1 < w1.heap.size := by have := hb1.size; simp at this; omega
        have y1 : w1.cell? ⟨w.heap.size + 1, 0, none⟩ = some (.slice none 0 0) := (hb1.cell (p := ⟨w.heap.size + 1, 0, none⟩) (by simp)).trans (by go_simp)
        have k1 : w1.frozen? ⟨w.heap.size + 1, 0, none⟩ = false := (hb1.frozen (p := ⟨w.heap.size + 1, 0, none⟩) (by simp)).trans (by go_simp)
        clear hrd hb1
        go_wp2_with fail
        refine (l29Strength_at (hSH.out.below (hb10.out.trans (show Below w.heap.size w1 _ from Below.mono (show Below w1.heap.size w1 _ by exact bel_) (by omega)))) ⟨by simp, B, ys.length, c', by go_simp, hrdH.out.below RPl.stable (by exact bel_)⟩ hVH.out (by omega) hptm.out hjH.out).mono ?_
        rintro e w2 ⟨rfl, hb2⟩
        have hB12 : Below w1.heap.size w1 w2 := by exact bel_
        have hb20 := Lib.hid (hb10.out.trans (show Below w.heap.size w1 w2 from Below.mono hB12 (by omega)))
        have s20 : w1.heap.size < w2.heap.size := Nat.lt_of_lt_of_le (by simp) hb2.size
        have s2 : w.heap.size + 1 < w2.heap.size := by omega
        have y2 : w2.cell? ⟨w.heap.size + 1, 0, none⟩ = some (.slice none 0 0) := (hb2.cell (p := ⟨w.heap.size + 1, 0, none⟩) (by simp; omega)).trans (by go_simp)
        have k2 : w2.frozen? ⟨w.heap.size + 1, 0, none⟩ = false := (hb2.frozen (p := ⟨w.heap.size + 1, 0, none⟩) (by simp; omega)).trans (by go_simp)
        have hmat : Hid (AsmAt w2 w1.heap.size 0 ms) := Lib.hid ⟨s20, B, ys.length, c', (hb2.cell (p := ⟨w1.heap.size, 0, none⟩) (by simp)).trans (by go_simp), hrdH.out.below RPl.stable hB12⟩
        have pa2 : w2.cell? ⟨pa, opa, none⟩ = some (.slice A q ca) := (hb20.out.cell (p := ⟨pa, opa, none⟩) hlta).trans ha1H.out
        have pb2 : w2.cell? ⟨pb, opb, none⟩ = some (.slice C nb cb) := (hb20.out.cell (p := ⟨pb, opb, none⟩) hltb).trans hb1H.out
        have la2 : pa < w2.heap.size := by omega
        have lb2 : pb < w2.heap.size := by omega
        clear hb2 y1 k1 hB12
        have hwr : IntKind.i64.wrap ((q : Int) + (nb : Int)) = (q : Int) + (nb : Int) := wrap_in (by omega) (by omega)
        by_cases hbig : 500 < q + nb
        · have hbigI : (500 : Int) < (q : Int) + (nb : Int) := by omega
          go_wp2
          refine wp_region_ord [(0, .q), (1, .q), (2, .q), (3, .q), (4, .q), (5, .q), (6, .q), (7, .q), (8, .q), (9, .q), (10, .q), (11, .q)] (by kernel_rfl) (by kernel_rfl) ?_
          simp only [pick, List.filterMap_cons, List.filterMap_nil, List.getElem?_toArray, List.getElem?_cons_zero, List.getElem?_cons_succ, Option.map_some]
          repeat (first
            | ((with_reducible refine wpD_p (fun K hK => ?_)); go_simp; refine hK _ ?_; clear hK K)
            | ((with_reducible refine wpD_q (fun K hK => ?_)); go_simp; (first | refine hK _ ?_ | (go_bits; refine hK _ ?_) | (go_bits; go_simp; refine hK _ ?_)); clear hK K)
            | ((with_reducible refine wpD_g (fun K hK => ?_)); go_simp; refine hK _ _ ?_; clear hK K)
            | ((with_reducible refine wpD_g (fun K hK => ?_)); go_simp; refine ⟨Grew.of_alloc _, hK _ _ ?_⟩; clear hK K))
          with_reducible refine wpD_nil ?_
          go_wp2
          refine bodyPost_ret (v := .tuple #[.agg #[.slice none 0 0], .int .i64 4]) (by simp only [results, Tryz.results23]; go_simp) rfl ?_
          exact AsmRes.lift (base := w.heap.size) (hfu.out (by omega)) rfl (World.ownsRow_nil _ _ _ _) (Nat.le_refl _) ((hb20.out.trans (show Below w.heap.size w2 w2.drew from (Below.refl _ _).drew)).setCell (p := ⟨w.heap.size + 1, 0, none⟩) (by simp) _)
        · have hbigI : ¬ (500 : Int) < (q : Int) + (nb : Int) := by omega
          go_wp2
          refine wp_region_ord [(0, .q), (1, .q), (2, .q), (3, .q), (4, .q), (5, .q), (6, .q), (7, .q), (8, .q), (9, .q), (10, .q), (11, .q)] (by kernel_rfl) (by kernel_rfl) ?_
          simp only [pick, List.filterMap_cons, List.filterMap_nil, List.getElem?_toArray, List.getElem?_cons_zero, List.getElem?_cons_succ, Option.map_some]
          repeat (first
            | ((with_reducible refine wpD_p (fun K hK => ?_)); go_simp; refine hK _ ?_; clear hK K)
            | ((with_reducible refine wpD_q (fun K hK => ?_)); go_simp; (first | refine hK _ ?_ | (go_bits; refine hK _ ?_) | (go_bits; go_simp; refine hK _ ?_)); clear hK K)
            | ((with_reducible refine wpD_g (fun K hK => ?_)); go_simp; refine hK _ _ ?_; clear hK K)
            | ((with_reducible refine wpD_g (fun K hK => ?_)); go_simp; refine ⟨Grew.of_alloc _, hK _ _ ?_⟩; clear hK K))
          with_reducible refine wpD_nil ?_
          have hBd : Below w2.heap.size w2 w2.drew := bl_dr (bl_refl _)
          generalize w2.drew = w3 at hBd ⊢
          have hb30 := Lib.hid (hb20.out.trans (show Below w.heap.size w2 w3 from Below.mono hBd (by omega)))
          have hmat3 := Lib.hid (hmat.out.below hBd)
          have s3 : w.heap.size + 1 < w3.heap.size := by have := hBd.size; omega
          replace y2 := (hBd.cell (p := ⟨w.heap.size + 1, 0, none⟩) s2).trans y2
          replace k2 := (hBd.frozen (p := ⟨w.heap.size + 1, 0, none⟩) s2).trans k2
          clear hBd pa2 pb2 la2 lb2 hmat hb20
          go_wp2_with fail
          refine (l03Join_any pa w1.heap.size gs ts xs ms _ (hSH.out.below hb30.out).a hmat3.out h2H.out (by omega)).mono ?_
          rintro e w4 ⟨D, c4, rfl, hown4, hb4⟩
          rw [hzlH.out] at hown4 ⊢
          have hb40 := Lib.hid (hb30.out.trans (show Below w.heap.size w3 w4 from Below.mono hb4 (by omega)))
          have s4 : w.heap.size + 1 < w4.heap.size := by have := hb4.size; omega
          replace y2 := (hb4.cell (p := ⟨w.heap.size + 1, 0, none⟩) s3).trans y2
          replace k2 := (hb4.frozen (p := ⟨w.heap.size + 1, 0, none⟩) s3).trans k2
          have hrd4 : RdSl 3 RPl w4 D (q + nb) (sortPl (xs ++ ms)) := rdPl hown4 hzlH.out.symm
          have hrd4H := Lib.hid hrd4
          clear hb4 hown4 hrd4
          go_wp2_with fail
          refine (l29Normal_any w4.heap.size (sortPl (xs ++ ms)) e0 _ ⟨by simp, D, q + nb, c4, by go_simp, hrd4H.out.below RPl.stable (by exact bel_)⟩ (hVz.out (by omega)) he0H.out).mono ?_
          rintro e w5 ⟨E, m5, c5, rfl, hrow, hb5⟩
          have hB45 : Below w4.heap.size w4 w5 := by exact bel_
          have hb50 := Lib.hid (hb40.out.trans (show Below w.heap.size w4 w5 from Below.mono hB45 (by omega)))
          have s5 : w.heap.size + 1 < w5.heap.size := by have := hB45.size; omega
          have sge : w.heap.size + 2 ≤ (w4.alloc (Obj.cells #[.slice D (q + nb) c4] 31)).heap.size := by simp; omega
          replace y2 := (hB45.cell (p := ⟨w.heap.size + 1, 0, none⟩) s4).trans y2
          replace k2 := (hB45.frozen (p := ⟨w.heap.size + 1, 0, none⟩) s4).trans k2
          have hnm2 := Lib.hid (hnm.out (by omega))
          clear hb5 hB45
          cases hm : mvOk (-e0.x) (-e0.y) (sortPl (xs ++ ms))
          · have hrH := Lib.hid ((normE_no he0H.out hm).trans hnm2.out)
            have hmH := Lib.hid hm
            clear hrow hm
            go_wp2
            refine bodyPost_ret (v := .tuple #[.agg #[.slice none 0 0], .int .i64 2]) (by simp only [results, Tryz.results23]; go_simp) rfl ?_
            exact AsmRes.lift (base := w.heap.size) hrH.out rfl (World.ownsRow_nil _ _ _ _) (Nat.le_refl _) ((hb50.out.setCell (p := ⟨w.heap.size + 1, 0, none⟩) (by simp) _).alloc (by simp; omega) _)
          · have hrH := Lib.hid ((normE_ok he0H.out hm).trans hnm2.out)
            obtain ⟨rfl, hrow⟩ := hrow hm
            have hrowH := Lib.hid (ownsRow_baseU hrow sge)
            have hz2 : (sortPl (xs ++ ms)).length = q + nb := hzlH.out
            rw [hz2] at hrowH ⊢
            have hz3 : (mvL (-e0.x) (-e0.y) (sortPl (xs ++ ms))).length = q + nb := by rw [mvL_len]; exact hz2
            have hz3H := Lib.hid hz3
            clear hrow hm hz2 hz3
            go_wp2
            refine bodyPost_ret (v := .tuple #[.agg #[.slice E (q + nb) c5], .int .i64 0]) (by simp only [results, Tryz.results23]; go_simp) rfl ?_
            exact AsmRes.lift (base := w.heap.size + 2) hrH.out hz3H.out ((ownsRow_setCell_below hrowH.out (by simp) _).alloc _) (by omega) ((hb50.out.setCell (p := ⟨w.heap.size + 1, 0, none⟩) (by simp) _).alloc (by simp; omega) _)
    · have hrH := Lib.hid (combE_code (T := t) hjm hk)
      have hk1 : (k != 0) = true := by simpa using hk
      clear hS hb hV hV2 hsp ho hje hmv hj hjm
      go_enter Tryz.func23, Tryz.ntmps23
      go_wp2_with fail
      refine (l29Moved_at (hbH.out.below (by exact bel_)) (by omega) hpt2.out hoH.out).mono ?_
      rintro e w1 ⟨B, m', c', rfl, hrd, hb1⟩
      obtain ⟨rfl, hrd⟩ := hrd rfl
      have hb10 := Lib.hid (show Below w.heap.size w w1 by exact bel_)
      have hrdH := Lib.hid hrd
      have s1 : w.heap.size + 1 < w1.heap.size := by have := hb1.size; simp at this; omega
      have y1 : w1.cell? ⟨w.heap.size + 1, 0, none⟩ = some (.slice none 0 0) := (hb1.cell (p := ⟨w.heap.size + 1, 0, none⟩) (by simp)).trans (by go_simp)
      have k1 : w1.frozen? ⟨w.heap.size + 1, 0, none⟩ = false := (hb1.frozen (p := ⟨w.heap.size + 1, 0, none⟩) (by simp)).trans (by go_simp)
      clear hrd hb1
      go_wp2_with fail
      refine (l29Strength_at (hSH.out.below (hb10.out.trans (show Below w.heap.size w1 _ from Below.mono (show Below w1.heap.size w1 _ by exact bel_) (by omega)))) ⟨by simp, B, ys.length, c', by go_simp, hrdH.out.below RPl.stable (by exact bel_)⟩ hVH.out (by omega) hptm.out hjH.out).mono ?_
      rintro e w2 ⟨rfl, hb2⟩
      have hb20 := Lib.hid (hb10.out.trans (show Below w.heap.size w1 w2 from Below.mono (show Below w1.heap.size w1 w2 by exact bel_) (by omega)))
      have s2 : w.heap.size + 1 < w2.heap.size := by have := hb2.size; simp at this; omega
      have y2 : w2.cell? ⟨w.heap.size + 1, 0, none⟩ = some (.slice none 0 0) := (hb2.cell (p := ⟨w.heap.size + 1, 0, none⟩) (by simp; omega)).trans (by go_simp)
      have k2 : w2.frozen? ⟨w.heap.size + 1, 0, none⟩ = false := (hb2.frozen (p := ⟨w.heap.size + 1, 0, none⟩) (by simp; omega)).trans (by go_simp)
      clear hb2 y1 k1
      go_wp2
      refine bodyPost_ret (v := .tuple #[.agg #[.slice none 0 0], .int .i64 k]) (by simp only [results, Tryz.results23]; go_simp) rfl ?_
      exact AsmRes.lift (base := w.heap.size) hrH.out rfl (World.ownsRow_nil _ _ _ _) (Nat.le_refl _) (hb20.out.setCell (p := ⟨w.heap.size + 1, 0, none⟩) (by simp) _)
theorem normE_len (zs : List Pl) : (normE zs).1.length ≤ zs.length := by
  cases zs with
  | nil => simp [normE]
  | cons e l =>
    show (if mvOk (-e.x) (-e.y) (e :: l) = true then (mvL (-e.x) (-e.y) (e :: l), (0 : Int)) else ([], 2)).1.length ≤ _
    split
    · rw [mvL_len]; exact Nat.le_refl _
    · simp
theorem combE_len (gs : List Gl) (ts : List Ti) (xs ys : List Pl) (t dx dy : Int) : (combE gs ts xs ys t dx dy).1.length ≤ 500 := by
  unfold combE
  split
  · split
    · simp
    · split
      · simp
      · have := normE_len (sortPl (xs ++ mvL dx dy ys))
        rw [sortPl_len, List.length_append, mvL_len] at this
        omega
  · simp
theorem combR_len (gs : List Gl) (ts : List Ti) (xs ys : List Pl) (t dx dy : Int) : (combR gs ts xs ys t dx dy).1.length ≤ 1073741824 := by
  unfold combR
  split
  · simp
  · split
    · simp
    · exact Nat.le_trans (combE_len gs ts xs ys t dx dy) (by decide)
end Go.Proofs.YtpdpkanlmhigfaaGreat
/- Walk: the reference's copy of an assembly (a pointer with an offset). -/



namespace Go.Proofs.YtpdpkanlmhigfaaGreat
open Go.RowKit Go.Shelf
attribute [local go_sem] BelowBy.cell BelowBy.cell_drew stillUpon givesUpon BelowBy.cell_drew2 BelowBy.cell_drew3

section
variable {P : Program} {w : World}
theorem run_append_none_o (base : Nat) (t ty e : TypeId) (i : TypeInfo) (size : Nat) (ht : P.underlying t = some (.slice e)) (hi : P.info? e = some i) (v : Value) (n : Nat) (xs : List Value) (hown : w.ownsRow base e size v n xs) (c : Nat) :
    (Builtin.append_ #[t, t] ty #[v, .slice none 0 c]).run P w = .ok v w := by
  rcases hown.2 with ⟨rfl, rfl⟩ | ⟨g, cap, cur, rfl, _, _, hnc, _⟩
  · simp [Builtin.append_, run_underlying ht, sizeOf, typeInfo, hi, Builtin.lenOf, Builtin.firstCells]
  · simp [Builtin.append_, run_underlying ht, sizeOf, typeInfo, hi, Builtin.lenOf, Builtin.firstCells, hnc, storeCells]
theorem wpList_append_none_o {ops : Array Oper} {rest : List Oper} {o : Oper} {a : Act} {Q : Exit → Act → World → Prop} (hgd : o.guard = none) (s x : Operand) (t : TypeId)
    (ho : o.op = .call { callee := .builtin .append, args := #[s, x], argTypes := #[t, t] })
    (base : Nat) (e : TypeId) (i : TypeInfo) (size : Nat) (ht : P.underlying t = some (.slice e)) (hi : P.info? e = some i)
    (v : Value) (n : Nat) (xs : List Value) (hs : a.eval s = v) (hown : w.ownsRow base e size v n xs) (c : Nat) (hx : a.eval x = .slice none 0 c)
    (h : wpList P ops Q rest (a.put o.dst v) w) : wpList P ops Q (o :: rest) a w := by
  refine wpList_plain hgd fun K hK => ?_
  have hrun := run_append_none_o (P := P) (w := w) base t o.type e i size ht hi v n xs hown c
  unfold Oper.wp
  simp [execOp, ho, resolve, invoke, builtin, hs, hx, hrun, Result.andThen]
  exact hK _ _ h
end
theorem OwnAsm.of {w w' : World} {bs : List Pl} {n : Nat} {A : Option Addr} {cap : Nat} (hn : n = bs.length) (hr : w'.ownsRow w.heap.size 97 3 (.slice A n cap) n (plCells bs)) (hb : Below w.heap.size w w') : OwnAsm w bs (.returned (.agg #[.slice A n cap])) w' := by
  subst hn
  exact ⟨A, cap, rfl, hr, hb⟩
theorem rdPl_noneO {w : World} {n : Nat} {ys : List Pl} (h : RdSl 3 RPl w none n ys) : n = 0 ∧ ys = [] := by
  have hl := h.len
  rcases Nat.eq_zero_or_pos n with h0 | h0
  · subst h0; exact ⟨rfl, List.eq_nil_of_length_eq_zero hl⟩
  · obtain ⟨b, o, e, _⟩ := h.cells h0; cases e
set_option maxRecDepth 100000 in
set_option maxHeartbeats 2000000 in
theorem l03Own_op {pa opa : Nat} {ys : List Pl} {w : World} (h : AsmAt w pa opa ys) (hl : ys.length ≤ 100000) :
    Calls Tryz.prog 24 #[.pointer (some ⟨pa, opa, none⟩)] w (OwnAsm w ys) := by
  obtain ⟨i0, hi, hz0, hz1, hz2⟩ := info_parts infoPl
  
  obtain ⟨la, C, k, cc, cq, hR⟩ := id h
  have hkl := hR.len
  cases C with
  | none =>
    obtain ⟨rfl, rfl⟩ := rdPl_noneO hR
    clear h hR
    go_enter Tryz.func24, Tryz.ntmps24
    go_wp2_with (at_builtin; go_loud (refine wpList_append_none_o rfl _ _ 29 rfl (w.heap.size + 1) 97 i0 3 Tryz.underlying29 hi _ 0 [] rfl (World.ownsRow_lit _ #[] 0 (by simp) (by decide) rfl) cc rfl ?_))
    refine bodyPost_ret (v := .agg #[.slice (some ⟨w.heap.size + 1, 0, none⟩) 0 0]) (by simp only [results, Tryz.results24]; go_simp) rfl ?_
    exact OwnAsm.of rfl (by have := World.ownsRow_lit (base := w.heap.size) (e := 97) (size := 3) (w.alloc (Obj.cells #[.slice (some ⟨w.heap.size + 1, 0, none⟩) 0 0] 31)) #[] 0 (by simp) (by decide) rfl; simpa [plCells] using this) (by exact bel_)
  | some ad =>
    have hcl : (∀ (W : World) j u, Below w.heap.size w W → (plCells ys)[j]? = some u → W.cell? (ad.add j) = some u) := fun W j u hW hj => by
      have hlt := (List.getElem?_eq_some_iff.1 hj).1
      rw [plCells_len] at hlt
      obtain ⟨b, o, e, hb, hc⟩ := hR.ptr (by omega)
      injection e with e
      subst e
      have := plCells_of_rd hc j u hj
      rw [Addr.add_lit] at this ⊢
      exact (hW.cell hb).trans this
    have hclH := Lib.hid hcl
    have hlen := plCells_len ys
    rw [hkl] at hlen
    have hlenH := Lib.hid hlen
    have hklH := Lib.hid hkl
    rw [hkl] at hl
    clear h hR hkl hcl hlen
    go_enter Tryz.func24, Tryz.ntmps24
    go_wp2_with (
      at_builtin
      refine wpList_append_own _ rfl _ _ 29 rfl (w.heap.size + 1) 97 i0 (.agg #[.int .i64 0, .int .i64 0, .int .i64 0]) 3 24 Tryz.underlying29 hi hz0 hz1 hz2 rfl (by decide) (.slice (some ⟨w.heap.size + 1, 0, none⟩) 0 0) 0 [] rfl (by have := World.ownsRow_lit (base := w.heap.size + 1) (e := 97) (size := 3) (w.alloc (Obj.cells #[.slice none 0 0] 31)) #[] 0 (by simp) (by decide) rfl; simpa using this) ad k cc (plCells ys) rfl hlenH.out (fun j u hj => hclH.out _ j u (by exact bel_) hj) (plCells_one ys) (by unfold maxLen; omega) (by omega) (by simp) ?_
      intro v' w3 hown' hgrow _
      have hfar : Below (w.heap.size + 1) (w.alloc (Obj.cells #[.slice none 0 0] 31)) w3 := ((Below.refl (w.heap.size + 1) (w.alloc (Obj.cells #[.slice none 0 0] 31))).alloc (by simp) _).grown hgrow (by simp) (fun b' hb' => by
        have hb2 : some (w.heap.size + 1) = some b' := hb'
        injection hb2 with hb3
        exact Nat.le_of_eq hb3)
      have hB := Lib.hid (show Below w.heap.size w w3 from ((Below.refl w.heap.size w).alloc (Nat.le_refl _) _).trans (hfar.mono (Nat.le_succ _)))
      have f0 := (hfar.cell (p := ⟨w.heap.size, 0, none⟩) (Nat.lt_succ_self _)).trans (show _ = some (Value.slice none 0 0) by go_simp)
      have f1 := (hfar.frozen (p := ⟨w.heap.size, 0, none⟩) (Nat.lt_succ_self _)).trans (show _ = false by go_simp)
      have f2 : w.heap.size < w3.heap.size := by have := hfar.size; simp at this; omega
      rw [Nat.zero_add, List.nil_append] at hown'
      obtain ⟨A5, c5, rfl⟩ := ownsRow_form hown'
      have hownH := Lib.hid hown'
      clear hown' hgrow hfar)
    refine bodyPost_ret (v := .agg #[.slice A5 k c5]) (by simp only [results, Tryz.results24]; go_simp) rfl ?_
    exact OwnAsm.of hklH.out.symm (ownsRow_baseU (ownsRow_setCell_below hownH.out (Nat.lt_succ_self _) _) (Nat.le_succ _)) (by have h9 := hB.out; exact bel_)
end Go.Proofs.YtpdpkanlmhigfaaGreat
/- Walk: PlayMerges, the reference. -/



namespace Go.Proofs.YtpdpkanlmhigfaaGreat
open Go.RowKit Go.Shelf
attribute [local go_sem] BelowBy.cell BelowBy.cell_drew stillUpon givesUpon BelowBy.cell_drew2 BelowBy.cell_drew3

theorem l29Combine_own {p pa pb opa opb : Nat} {gs : List Gl} {ts : List Ti} {xs ys L : List Pl} {t dx dy c : Int} {w : World} (hS : SAt w p 0 pa opa gs ts xs) (hb : AsmAt w pb opb ys) (hV : Valid gs ts xs) (hV2 : Valid gs ts ys) (ht : 1 ≤ t) (hr : combE gs ts xs ys t dx dy = (L, c)) :
    Calls Tryz.prog 23 #[.pointer (some ⟨p, 0, none⟩), .int .i64 t, .pointer (some ⟨pa, opa, none⟩), .pointer (some ⟨pb, opb, none⟩), .agg #[.int .i64 dx, .int .i64 dy]] w (AsmRes w (L, c)) := by
  rw [← hr]; exact l29Combine_any p pa pb gs ts xs ys t dx dy w hS hb hV hV2 ht
theorem stepM_len (gs : List Gl) (ts : List Ti) (t : Int) (items : List (List Pl)) (e : Mr) : (stepM gs ts t items e).1.length ≤ 500 := by
  unfold stepM
  split
  · simp
  · split
    · simp
    · exact combE_len _ _ _ _ _ _ _
theorem playG_len (gs : List Gl) (ts : List Ti) (t : Int) : ∀ (ms : List Mr) (items : List (List Pl)) (i : Nat), (∀ l ∈ items, l.length ≤ 500) → (playG gs ts t items ms i).1.length ≤ 500
  | [], items, i, h => by
    show (items.getLast?.getD []).length ≤ 500
    cases hl : items.getLast? with
    | none => simp
    | some l => exact h l (List.mem_of_getLast? hl)
  | e :: r, items, i, h => by
    show (if (stepM gs ts t items e).2 = 0 then playG gs ts t (items ++ [(stepM gs ts t items e).1]) r (i + 1) else ([], (i : Int), (stepM gs ts t items e).2)).1.length ≤ 500
    split
    · refine playG_len gs ts t r _ _ (fun l hl => ?_)
      rcases List.mem_append.1 hl with hl | hl
      · exact h l hl
      · simp at hl; subst hl; exact stepM_len gs ts t items e
    · simp
theorem playR_len (gs : List Gl) (ts : List Ti) (t : Int) (ms : List Mr) : (playR gs ts t ms).1.length ≤ 1073741824 := by
  unfold playR
  split
  · simp
  · split
    · simp
    · split
      · simp
      · refine Nat.le_trans (playG_len gs ts t ms _ 0 (fun l hl => ?_)) (by decide)
        unfold singL at hl
        obtain ⟨k, _, rfl⟩ := List.mem_map.1 hl
        simp [oneL]
/-- a set behind a pointer -/
structure TSt (w : World) (p : Nat) (gs : List Gl) (ts : List Ti) : Prop where
  s : SetAt w p 0 gs ts
  gm : gs.length ≤ 1073741824
  tm : ts.length ≤ 1073741824
  gn : ∀ (k : Nat) (e : Gl), gs[k]? = some e → e.name.size ≤ 9223372036854775807
  tn : ∀ (k : Nat) (e : Ti), ts[k]? = some e → e.name.size ≤ 9223372036854775807 ∧ e.sides.length ≤ 9223372036854775807
theorem TSt.below {w w' : World} {p : Nat} {gs : List Gl} {ts : List Ti} (h : TSt w p gs ts) (hb : Below w.heap.size w w') : TSt w' p gs ts := ⟨h.s.below hb, h.gm, h.tm, h.gn, h.tn⟩
theorem TSt.sat {w : World} {p pa opa : Nat} {gs : List Gl} {ts : List Ti} {xs : List Pl} (h : TSt w p gs ts) (ha : AsmAt w pa opa xs) (hq : xs.length ≤ 1073741824) : SAt w p 0 pa opa gs ts xs := ⟨h.s, ha, hq, h.gm, h.tm, h.gn, h.tn⟩
theorem TS.tst {w : World} {G T : Option Addr} {n m : Nat} {gs : List Gl} {ts : List Ti} (h : TS w G n T m gs ts) (cg ct : Nat) : TSt (w.alloc (Obj.cells #[.slice G n cg, .slice T m ct] 37)) w.heap.size gs ts :=
  ⟨⟨by simp, ⟨G, n, cg, by go_simp, h.G.below RGl.stable (by exact bel_)⟩, ⟨T, m, ct, by go_simp, h.T.below RTi.stable (by exact bel_)⟩⟩, by rw [h.G.len]; exact h.gm, by rw [h.T.len]; exact h.tm, h.gn, h.tn⟩
theorem TSt.ok {w : World} {p : Nat} {gs : List Gl} {ts : List Ti} {v : Bool} (h : TSt w p gs ts) (hv : validSetB gs ts = v) :
    Calls Tryz.prog 19 #[.pointer (some ⟨p, 0, none⟩)] w fun e w' => e = .returned (.bool v) ∧ Below w.heap.size w w' :=
  l02Ok_at h.s (Nat.le_trans h.gm (by decide)) (Nat.le_trans h.tm (by decide)) h.gn h.tn hv
set_option maxRecDepth 100000 in
set_option maxHeartbeats 8000000 in
theorem sPlayMerges_any (G : Option Addr) (n cg : Nat) (T : Option Addr) (m ct : Nat) (F : Option Addr) (nf cf : Nat) (gs : List Gl) (ts : List Ti) (t : Int) (ms : List Mr) (w : World) (h : TS w G n T m gs ts) (hF : RdSl 4 RMr w F nf ms) (hnf : nf ≤ 1073741824) :
    Calls Tryz.prog 6 #[.agg #[.slice G n cg, .slice T m ct], .int .i64 t, .slice F nf cf] w (PlRes w (playR gs ts t ms)) := by
  obtain ⟨i3, hi3, hz03, hz13, hz23⟩ := info_parts infoAsmV
  have hlm := h.T.len
  have hlf := hF.len
  have hlfH := Lib.hid hlf
  have hH := Lib.hid (h.tst cg ct)
  have hFH := Lib.hid hF
  cases hs : validSetB gs ts
  · have hsH := Lib.hid hs
    have hrH := Lib.hid (show (([], 0, 1) : List Pl × Int × Int) = playR gs ts t ms by unfold playR; rw [if_pos hs])
    clear h hF hlf hs
    go_enter Tryz.func6, Tryz.ntmps6
    go_wp2_with fail
    refine (TSt.ok (hH.out.below (by exact bel_)) hsH.out).mono ?_
    rintro e w1 ⟨rfl, hb1⟩
    have hb10 := Lib.hid (show Below w.heap.size w w1 by exact bel_)
    obtain ⟨chb1, fhb1, shb1, thb1⟩ := bcell hb1
    have s1 := shb1 (w.heap.size + 1) (by go_simp)
    go_wp2
    refine bodyPost_ret (v := .tuple #[.agg #[.slice none 0 0], .int .i64 0, .int .i64 1]) (by simp only [results, Tryz.results6]; go_simp) rfl ?_
    exact PlRes.lift (base := w.heap.size) hrH.out rfl (World.ownsRow_nil _ _ _ _) (Nat.le_refl _) (hb10.out.setCell (p := ⟨w.heap.size + 1, 0, none⟩) (by simp) _)
  · cases hT : inB t 1 16
    · have hsH := Lib.hid hs
      have hTH := Lib.hid hT
      have hrH := Lib.hid (show (([], 0, 2) : List Pl × Int × Int) = playR gs ts t ms by unfold playR; rw [if_neg (by rw [hs]; decide), if_pos hT])
      clear h hF hlf hs hT
      go_enter Tryz.func6, Tryz.ntmps6
      go_wp2_with fail
      refine (TSt.ok (hH.out.below (by exact bel_)) hsH.out).mono ?_
      rintro e w1 ⟨rfl, hb1⟩
      have hb10 := Lib.hid (show Below w.heap.size w w1 by exact bel_)
      obtain ⟨chb1, fhb1, shb1, thb1⟩ := bcell hb1
      have s1 := shb1 (w.heap.size + 1) (by go_simp)
      go_wp2_with (go_at_call 20; refine (sTempH_at hTH.out).mono ?_; rintro e _ ⟨rfl, rfl⟩)
      refine bodyPost_ret (v := .tuple #[.agg #[.slice none 0 0], .int .i64 0, .int .i64 2]) (by simp only [results, Tryz.results6]; go_simp) rfl ?_
      exact PlRes.lift (base := w.heap.size) hrH.out rfl (World.ownsRow_nil _ _ _ _) (Nat.le_refl _) (hb10.out.setCell (p := ⟨w.heap.size + 1, 0, none⟩) (by simp) _)
    · have hsH := Lib.hid hs
      have hTH := Lib.hid hT
      have hT1 : 1 ≤ t := (inB_true.1 hT).1
      have hV0 := Lib.hid (valid_nil hs)
      have hm5 : m ≤ 160 := by have := hV0.out.tl; omega
      have hm0 : 0 < m := by
        have := hs
        unfold validSetB at this
        simp only [Bool.and_eq_true, decide_eq_true_eq] at this
        omega
      by_cases hbig : 200 < nf
      · have hrH := Lib.hid (show (([], 0, 2) : List Pl × Int × Int) = playR gs ts t ms by unfold playR; rw [if_neg (by rw [hs]; decide), if_neg (by rw [hT]; decide), if_pos (by omega)])
        have hbigI : (200 : Int) < (nf : Int) := by omega
        clear h hF hlf hs hT
        go_enter Tryz.func6, Tryz.ntmps6
        go_wp2_with fail
        refine (TSt.ok (hH.out.below (by exact bel_)) hsH.out).mono ?_
        rintro e w1 ⟨rfl, hb1⟩
        have hb10 := Lib.hid (show Below w.heap.size w w1 by exact bel_)
        obtain ⟨chb1, fhb1, shb1, thb1⟩ := bcell hb1
        have s1 := shb1 (w.heap.size + 1) (by go_simp)
        go_wp2_with (go_at_call 20; refine (sTempH_at hTH.out).mono ?_; rintro e _ ⟨rfl, rfl⟩)
        refine bodyPost_ret (v := .tuple #[.agg #[.slice none 0 0], .int .i64 0, .int .i64 2]) (by simp only [results, Tryz.results6]; go_simp) rfl ?_
        exact PlRes.lift (base := w.heap.size) hrH.out rfl (World.ownsRow_nil _ _ _ _) (Nat.le_refl _) (hb10.out.setCell (p := ⟨w.heap.size + 1, 0, none⟩) (by simp) _)
      · have hR0 : playG gs ts t (singL ts.length) ms 0 = playR gs ts t ms := by unfold playR; rw [if_neg (by rw [hs]; decide), if_neg (by rw [hT]; decide), if_neg (by omega)]
        rw [hlm] at hR0
        have hR0H := Lib.hid hR0
        obtain ⟨R, hR⟩ : ∃ R, playR gs ts t ms = R := ⟨_, rfl⟩
        rw [hR] at hR0H ⊢
        have hbigI : ¬ (200 : Int) < (nf : Int) := by omega
        have hval0 : Hid (∀ l ∈ singL m, Valid gs ts l) := Lib.hid (fun l hl => by
          unfold singL at hl
          obtain ⟨k, hk, rfl⟩ := List.mem_map.1 hl
          exact valid_one hV0.out (by have := List.mem_range.1 hk; omega))
        have hlen0 : (singL m).length = m := singL_len m
        obtain ⟨cT, hcT⟩ : ∃ c, Hid ((w.alloc (Obj.cells #[.slice G n cg, .slice T m ct] 37)).cell? ⟨w.heap.size, 1, none⟩ = some (.slice T m c)) := ⟨ct, Lib.hid (by go_simp)⟩
        clear h hF hlf hs hT hR0 hR
        go_enter Tryz.func6, Tryz.ntmps6
        go_wp2_with fail
        refine (TSt.ok (hH.out.below (by exact bel_)) hsH.out).mono ?_
        rintro e w1 ⟨rfl, hb1⟩
        have hb10 := Lib.hid (show Below w.heap.size w w1 by exact bel_)
        have r0 : Hid (w1.cell? ⟨w.heap.size + 1, 0, none⟩ = some (.slice none 0 0)) := Lib.hid ((hb1.cell (p := ⟨w.heap.size + 1, 0, none⟩) (by simp)).trans (by go_simp))
        have rf : Hid (w1.frozen? ⟨w.heap.size + 1, 0, none⟩ = false) := Lib.hid ((hb1.frozen (p := ⟨w.heap.size + 1, 0, none⟩) (by simp)).trans (by go_simp))
        have y1 : Hid (w1.cell? ⟨w.heap.size, 1, none⟩ = some (.slice T m ct)) := Lib.hid ((hb1.cell (p := ⟨w.heap.size, 1, none⟩) (by simp; omega)).trans (by go_simp))
        have hH1 := Lib.hid (hH.out.below (show Below _ _ w1 by exact bel_))
        have s1 : w.heap.size + 2 ≤ w1.heap.size := by have := hb1.size; simp at this; omega
        clear hb1
        go_upto_region 6 with (go_at_call 20; refine (sTempH_at hTH.out).mono ?_; rintro e _ ⟨rfl, rfl⟩)
        obtain ⟨wa, hwa⟩ : ∃ W, W = w1.alloc (Obj.cells #[] 31) := ⟨_, rfl⟩
        have hBa : Below w1.heap.size w1 wa := by rw [hwa]; exact bl_al (bl_refl _) _
        have hI0 : Hid (Items wa w1.heap.size (.slice (some ⟨w1.heap.size, 0, none⟩) 0 0) [] (singL 0)) := Lib.hid (Own2.of_empty (by rw [hwa]; exact World.ownsRow_made _ _ _ (Nat.le_refl _) (by decide) rfl))
        have sa : w1.heap.size < wa.heap.size := by rw [hwa]; simp
        rw [← hwa]
        have hBaH := Lib.hid hBa
        clear hwa hBa
        go_wp2_with fail
        go_loopg [10, 9] m (fun g x y wr => ∃ (k : Nat) (v : Value) (us : List Value), k + g = m ∧ x = .int .i64 (k : Int) ∧ v = y ∧ Hid (Items wr w1.heap.size v us (singL k)) ∧ Hid (Below w1.heap.size w1 wr) ∧ w1.heap.size < wr.heap.size)
        case atStart => exact ⟨0, _, [], by omega, rfl, rfl, hI0, hBaH, sa⟩
        case round =>
          clear hI0 hBaH sa
          obtain ⟨k, v, us, hk, rfl, rfl, hI, hbw, hsz⟩ := hrel
          have yy : wr.cell? ⟨w.heap.size, 1, none⟩ = some (.slice T m ct) := (hbw.out.cell (p := ⟨w.heap.size, 1, none⟩) (by simp; omega)).trans y1.out
          have ly : w.heap.size < wr.heap.size := by omega
          by_cases hkm : k < m
          · have hul : us.length = k := (Items.len hI.out).trans (singL_len k)
            go_wp2_with fail
            refine (l29Single_any k _).mono ?_
            rintro e w2 ⟨B, c2, rfl, hown2, hb2⟩
            have hl1 : (oneL k).length = 1 := rfl
            rw [hl1] at hown2 ⊢
            have hI2 : Items w2 w1.heap.size v us (singL k) := Own2.below hI.out hb2
            have hb20 := Lib.hid (hbw.out.trans (hb2.mono (by omega)))
            have s2 := hb2.size
            have hown2H := Lib.hid hown2
            have hold := Lib.hid (Items.old hI.out)
            have hI2H := Lib.hid hI2
            clear hown2 hI2 hI hbw hb2 yy ly
            go_wp2_with (at_builtin; refine wpList_append_own_at _ rfl _ _ 53 rfl w1.heap.size 31 i3 (.agg #[.slice none 0 0]) 1 24 Tryz.underlying53 hi3 hz03 hz13 hz23 rfl (by decide) _ us.length us rfl ((Own2.outer hI2H.out).alloc _) ⟨w2.heap.size, 0, none⟩ 1 1 [.slice B 1 c2] rfl rfl (cell_one_newV _ _ _) (fun x hx => by simp at hx; subst hx; rfl) (by unfold maxLen; omega) (by omega) (by simp; omega) ?_; intro v3 w3 hown3 hgrow _ hob; have hI3 := Lib.hid (Items.push (L := singL k) (Z := oneL k) (Own2.alloc hI2H.out (Obj.cells #[.slice B 1 c2] 31)) (hown2H.out.alloc (Obj.cells #[.slice B 1 c2] 31)) (show w1.heap.size ≤ wr.heap.size by omega) hold.out hown3 hgrow hob); have hb3 := Lib.hid (hb20.out.trans (((Below.refl w1.heap.size w2).alloc (by omega) _).grown hgrow (by simp; omega) (fun g e => (Own2.lt hI2H.out g e).1))); have s3 : w1.heap.size < w3.heap.size := Nat.lt_of_lt_of_le (show w1.heap.size < w2.heap.size by omega) (Nat.le_trans (by simp) hgrow.size); clear hown3 hgrow hob)
            go_roundg (m - (k + 1))
            case measure => omega
            case rel => exact ⟨k + 1, v3, _, by omega, by go_num, rfl, Lib.hid (by rw [singL_succ]; exact hI3.out), hb3, s3⟩
          · obtain rfl : m = k := by omega
            obtain ⟨wq, rfl⟩ : ∃ W, W = wr := ⟨_, rfl⟩
            go_wp2_with fail
            go_loopg [11, 9] nf (fun g x y wr => ∃ (k : Nat) (v : Value) (us : List Value) (L : List (List Pl)), k + g = nf ∧ x = .int .i64 (k : Int) ∧ v = y ∧ L.length = m + k ∧ Hid (Items wr w1.heap.size v us L) ∧ Hid (playG gs ts t L (ms.drop k) k = R) ∧ Hid (∀ l ∈ L, Valid gs ts l) ∧ Hid (Below w1.heap.size w1 wr) ∧ w1.heap.size < wr.heap.size)
            case atStart => exact ⟨0, v, us, singL m, by omega, rfl, rfl, by omega, hI, hR0H, hval0, hbw, hsz⟩
            case round =>
              clear hI hval0 hlen0 hR0H hbw hsz yy ly
              obtain ⟨k, v, us, L, hk, rfl, rfl, hLl, hI, hpl, hval, hbw, swr⟩ := hrel
              have hr0 : wr.cell? ⟨w.heap.size + 1, 0, none⟩ = some (.slice none 0 0) := (hbw.out.cell (p := ⟨w.heap.size + 1, 0, none⟩) (by simp; omega)).trans r0.out
              have hrf : wr.frozen? ⟨w.heap.size + 1, 0, none⟩ = false := (hbw.out.frozen (p := ⟨w.heap.size + 1, 0, none⟩) (by simp; omega)).trans rf.out
              have hul : us.length = m + k := (Items.len hI.out).trans hLl
              obtain ⟨N, hN⟩ : ∃ N, m + k = N := ⟨_, rfl⟩
              rw [hN] at hul hLl
              have hN0 : 0 < N := by omega
              have hN5 : N ≤ 360 := by omega
              have hulH := Lib.hid hul
              have hLlH := Lib.hid hLl
              obtain ⟨gI, cI, rfl⟩ := Own2.formPos hI.out hul hN0
              have hgI := (Own2.lt hI.out gI rfl)
              have l1 : w.heap.size + 1 < wr.heap.size := by omega
              have hbwr : Hid (Below w.heap.size w wr) := Lib.hid (hb10.out.trans (hbw.out.mono (by omega)))
              have hwN : IntKind.i64.wrap ((N : Int) - 1) = (N : Int) - 1 := wrap_in (by omega) (by omega)
              clear hul hLl
              by_cases hkn : k < nf
              · obtain ⟨e, he⟩ : ∃ e, ms[k]? = some e := ⟨_, List.getElem?_eq_getElem (by have := hlfH.out; omega)⟩
                obtain ⟨bF, oF, rfl, hbF, hcF⟩ := (hFH.out.below RMr.stable hbwr.out).ptr (by omega)
                obtain ⟨e0, e1, e2, e3⟩ := hcF k e he
                have heH := Lib.hid he
                clear he hcF
                cases hva : inB e.a 0 ((N : Int) - 1)
                · have hrH := Lib.hid (playG_fail hpl.out heH.out (stepM_a (items := L) (by rw [hLlH.out]; exact hva)) (by decide))
                  have hvaH := Lib.hid hva
                  clear hva
                  go_wp2_with (go_at_call 22; refine (l00In_at hvaH.out).mono ?_; rintro e' _ ⟨rfl, rfl⟩)
                  refine bodyPost_ret (v := .tuple #[.agg #[.slice none 0 0], .int .i64 (k : Int), .int .i64 2]) (by simp only [results, Tryz.results6]; go_simp) rfl ?_
                  exact PlRes.lift (base := w.heap.size) hrH.out rfl (World.ownsRow_nil _ _ _ _) (Nat.le_refl _) (by first | exact (hbwr.out.trans ((bl_al (bl_refl wr) _).mono (by omega))).setCell (p := ⟨w.heap.size + 1, 0, none⟩) (by simp) _ | exact (hbwr.out.setCell (p := ⟨w.heap.size + 1, 0, none⟩) (by simp) _).alloc (by simp; omega) _)
                · cases hvb : inB e.b 0 ((N : Int) - 1)
                  · have hrH := Lib.hid (playG_fail hpl.out heH.out (stepM_b (items := L) (by rw [hLlH.out]; exact hvb)) (by decide))
                    go_wp2_with (go_at_call 22; refine (l00In_any _ _ _ _).mono ?_; rintro e _ ⟨rfl, rfl⟩)
                    refine bodyPost_ret (v := .tuple #[.agg #[.slice none 0 0], .int .i64 (k : Int), .int .i64 2]) (by simp only [results, Tryz.results6]; go_simp) rfl ?_
                    exact PlRes.lift (base := w.heap.size) hrH.out rfl (World.ownsRow_nil _ _ _ _) (Nat.le_refl _) (by first | exact (hbwr.out.trans ((bl_al (bl_refl wr) _).mono (by omega))).setCell (p := ⟨w.heap.size + 1, 0, none⟩) (by simp) _ | exact (hbwr.out.setCell (p := ⟨w.heap.size + 1, 0, none⟩) (by simp) _).alloc (by simp; omega) _)
                  · obtain ⟨a, hea, haN⟩ := inB_nat hva
                    obtain ⟨b, heb, hbN⟩ := inB_nat hvb
                    obtain ⟨xs, hxa⟩ : ∃ l, L[a]? = some l := ⟨_, List.getElem?_eq_getElem (by have := hLlH.out; omega)⟩
                    obtain ⟨ys, hyb⟩ : ∃ l, L[b]? = some l := ⟨_, List.getElem?_eq_getElem (by have := hLlH.out; omega)⟩
                    have hst := stepM_c (gs := gs) (ts := ts) (t := t) hea heb hxa hyb
                    have hVx := Lib.hid (hval.out xs (List.mem_of_getElem? hxa))
                    have hVy := Lib.hid (hval.out ys (List.mem_of_getElem? hyb))
                    have hx5 : xs.length ≤ 500 := hVx.out.len
                    have hy5 : ys.length ≤ 500 := hVy.out.len
                    obtain ⟨A1, ca, i1, hrx, _⟩ := Items.item hI.out hulH.out hxa
                    obtain ⟨A2, cb, i2, hry, _⟩ := Items.item hI.out hulH.out hyb
                    have hAa : Hid (AsmAt wr gI a xs) := Lib.hid ⟨hgI.2, A1, xs.length, ca, i1, hrx⟩
                    have hAb : Hid (AsmAt wr gI b ys) := Lib.hid ⟨hgI.2, A2, ys.length, cb, i2, hry⟩
                    obtain ⟨ZL, c, hr⟩ : ∃ ZL c, combE gs ts xs ys t e.x e.y = (ZL, c) := ⟨_, _, rfl⟩
                    have hstH := Lib.hid (hst.trans hr)
                    have hrH := Lib.hid hr
                    have haI : (a : Int) < (N : Int) := by omega
                    have hbI : (b : Int) < (N : Int) := by omega
                    rw [hea] at e0 hva
                    rw [heb] at e1 hvb
                    have hTw := Lib.hid (hH1.out.below hbw.out)
                    clear hxa hyb hst hr hrx hry hea heb i1 i2
                    go_wp2_with (go_at_call 22; refine (l00In_any _ _ _ _).mono ?_; rintro e _ ⟨rfl, rfl⟩)
                    obtain ⟨w3, hw3⟩ : ∃ W, W = wr.alloc (Obj.cells #[.int .i64 (a : Int), .int .i64 (b : Int), .int .i64 e.x, .int .i64 e.y] 58) := ⟨_, rfl⟩
                    have hB3 : Below wr.heap.size wr w3 := by rw [hw3]; exact bl_al (bl_refl _) _
                    have s3 : wr.heap.size + 1 ≤ w3.heap.size := by rw [hw3]; simp
                    have x0 : w3.cell? ⟨wr.heap.size, 0, none⟩ = some (.int .i64 (a : Int)) := by rw [hw3]; go_simp
                    have x1 : w3.cell? ⟨wr.heap.size, 1, none⟩ = some (.int .i64 (b : Int)) := by rw [hw3]; go_simp
                    have x2 : w3.cell? ⟨wr.heap.size, 2, none⟩ = some (.int .i64 e.x) := by rw [hw3]; go_simp
                    have x3 : w3.cell? ⟨wr.heap.size, 3, none⟩ = some (.int .i64 e.y) := by rw [hw3]; go_simp
                    replace hr0 := (hB3.cell (p := ⟨w.heap.size + 1, 0, none⟩) l1).trans hr0
                    replace hrf := (hB3.frozen (p := ⟨w.heap.size + 1, 0, none⟩) l1).trans hrf
                    rw [← hw3]
                    have hB3H := Lib.hid hB3
                    have lw : wr.heap.size < w3.heap.size := by omega
                    replace l1 : w.heap.size + 1 < w3.heap.size := by omega
                    clear hw3 e0 e1 e2 e3 hbF hB3 hva hvb
                    refine wp_region_fl 15 [(0, .q), (1, .q), (2, .q), (3, .q), (4, .q), (5, .q), (6, .q), (7, .q), (8, .q), (9, .q), (10, .q), (11, .g), (12, .q), (13, .q), (14, .p)] [(16, .b), (17, .q)] _ (Obj.cells #[.slice none 0 0] 31) (by kernel_rfl) (by kernel_rfl) (by kernel_rfl) (by kernel_rfl) rfl (fun a w => ⟨rfl, by unfold flPtr; go_simp⟩) ?_
                    simp only [pick, List.filterMap_cons, List.filterMap_nil, List.getElem?_toArray, List.getElem?_cons_zero, List.getElem?_cons_succ, Option.map_some]
                    repeat (first | ((with_reducible refine wpL_p (fun K hK => ?_)); go_simp; refine hK _ ?_; clear hK K) | ((with_reducible refine wpL_q (fun K hK => ?_)); go_simp; (first | refine hK _ ?_ | (go_bits; refine hK _ ?_) | (go_bits; go_simp; refine hK _ ?_)); clear hK K))
                    with_reducible refine wpL_g rfl (fun K hK st4 u4 mv4 => ?_)
                    have hu4 := mv4.below
                    have fu4 := (FlAt.none (Obj.cells #[.slice none 0 0] 31) (World.drew w3)).mv mv4
                    have j4 : Below w3.heap.size w3 u4 := (Below.refl _ w3).drew.trans (hu4.mono (Nat.le_refl _))
                    have j4w : Below wr.heap.size wr u4 := hB3H.out.trans (j4.mono (by omega))
                    clear mv4
                    go_simp
                    refine (l29Combine_own ((hTw.out.below j4w).sat (hAa.out.below j4w) (by omega)) (hAb.out.below j4w) hVx.out hVy.out hT1 hrH.out).mono ?_
                    rintro e' w4 ⟨B, c5, rfl, hown4, hb4⟩
                    refine ⟨_, rfl, hb4, hK _ _ _ ?_⟩
                    clear hK K
                    have fd4 := fu4.below hb4
                    have j5w : Below wr.heap.size wr w4 := j4w.trans (hb4.mono j4w.size)
                    have j5 : Below w3.heap.size w3 w4 := j4.trans (hb4.mono j4.size)
                    have hown40 := ownsRow_baseU hown4 (show wr.heap.size ≤ u4.heap.size from j4w.size)
                    repeat (first | ((with_reducible refine wpL_p (fun K hK => ?_)); go_simp; refine hK _ ?_; clear hK K) | ((with_reducible refine wpL_q (fun K hK => ?_)); go_simp; (first | refine hK _ ?_ | (go_bits; refine hK _ ?_) | (go_bits; go_simp; refine hK _ ?_)); clear hK K))
                    with_reducible refine wpL_nil (fun b14 w5 mvF => ?_)
                    have huF := mvF.below
                    obtain ⟨fl9, fb9⟩ := (fd4.mv mvF).2 _ rfl
                    have j8 : Below w3.heap.size w3 w5 := j5.trans (huF.mono j5.size)
                    have j8w : Below wr.heap.size wr w5 := j5w.trans (huF.mono j5w.size)
                    clear mvF
                    simp only [World.size_drew] at fl9
                    have rF : w5.rowIs b14 31 1 (fun i => (#[.slice none 0 0] : Array Value).getD i undef) := ⟨_, fb9, rfl, fun i hi => by simp [hi]⟩
                    have f0 : w5.cell? ⟨b14, 0, none⟩ = some (.slice none 0 0) := rF.cell (i := 0) (by decide)
                    have f1 : w5.frozen? ⟨b14, 0, none⟩ = false := rF.frozen 0
                    have lF : b14 < w5.heap.size := (Array.getElem?_eq_some_iff.1 fb9).1
                    have hown5 := ownsRow_below hown40 huF
                    have hneF := own_ne_row hown5 rF (by decide)
                    have n4 : ¬ w.heap.size + 1 = b14 := by omega
                    replace hr0 := (j8.cell (p := ⟨w.heap.size + 1, 0, none⟩) l1).trans hr0
                    replace hrf := (j8.frozen (p := ⟨w.heap.size + 1, 0, none⟩) l1).trans hrf
                    have s8 := j8.size
                    replace l1 : w.heap.size + 1 < w5.heap.size := by omega
                    have hown6 := Lib.hid (ownsRow_setCell_other hown5 (a := ⟨b14, 0, none⟩) hneF (.slice B ZL.length c5))
                    have hI5 : Items w5 w1.heap.size (.slice (some ⟨gI, 0, none⟩) N cI) us L := Own2.below hI.out j8w
                    have hI6 : Hid (Items (w5.setCell ⟨b14, 0, none⟩ (.slice B ZL.length c5)) w1.heap.size (.slice (some ⟨gI, 0, none⟩) N cI) us L) := Lib.hid (Own2.kept (row := some b14) hI5 ⟨rfl, rfl, rfl, by simp, fun k hk hne => Below.heap_setCell _ _ _ _ (fun e => hne (by rw [e]))⟩ (fun g eg => by
                      injection eg with eg
                      subst eg
                      exact ⟨fun hc => by have := Items.old hI.out _ (Or.inl hc); omega, fun k u hu hc => by have := Items.old hI.out _ (Or.inr ⟨k, u, hu, hc⟩); omega⟩))
                    have hbw6 := Lib.hid (hbw.out.trans ((j8w.setCell (p := ⟨b14, 0, none⟩) (by simp; omega) (.slice B ZL.length c5)).mono (show w1.heap.size ≤ wr.heap.size by omega)))
                    have hbW6 := Lib.hid (hbwr.out.trans ((j8w.setCell (p := ⟨b14, 0, none⟩) (by simp; omega) (.slice B ZL.length c5)).mono (show w.heap.size ≤ wr.heap.size by omega)))
                    clear fu4 fd4 hu4 huF hb4 j4 j5 j4w j5w j8 j8w fb9 rF hown5 hown40 hown4 hneF hI5 x0 x1 x2 x3
                    simp only [flPtr]
                    with_reducible refine wpD_b (fun K hK => ?_)
                    go_simp
                    refine hK _ _ ?_
                    clear hK K
                    repeat (first | ((with_reducible refine wpD_p (fun K hK => ?_)); go_simp; refine hK _ ?_; clear hK K) | ((with_reducible refine wpD_q (fun K hK => ?_)); go_simp; (first | refine hK _ ?_ | (go_bits; refine hK _ ?_) | (go_bits; go_simp; refine hK _ ?_)); clear hK K))
                    with_reducible refine wpD_nil ?_
                    have z0 : (w5.setCell ⟨b14, 0, none⟩ (.slice B ZL.length c5)).cell? ⟨b14, 0, none⟩ = some (.slice B ZL.length c5) := by go_simp
                    have z4 : (w5.setCell ⟨b14, 0, none⟩ (.slice B ZL.length c5)).cell? ⟨w.heap.size + 1, 0, none⟩ = some (.slice none 0 0) := by go_simp
                    have z5 : (w5.setCell ⟨b14, 0, none⟩ (.slice B ZL.length c5)).frozen? ⟨w.heap.size + 1, 0, none⟩ = false := by go_simp
                    have z6 : b14 < (w5.setCell ⟨b14, 0, none⟩ (.slice B ZL.length c5)).heap.size := by simpa using lF
                    have z7 : w.heap.size + 1 < (w5.setCell ⟨b14, 0, none⟩ (.slice B ZL.length c5)).heap.size := by simpa using l1
                    have z8 : wr.heap.size ≤ (w5.setCell ⟨b14, 0, none⟩ (.slice B ZL.length c5)).heap.size := by simp; omega
                    clear hr0 hrf f0 f1 lF l1 s8
                    generalize (w5.setCell ⟨b14, 0, none⟩ (.slice B ZL.length c5)) = w6 at hown6 hI6 hbw6 hbW6 z0 z4 z5 z6 z7 z8 ⊢
                    by_cases hc0 : c = 0
                    · subst hc0
                      have hnx := Lib.hid (playG_next hpl.out heH.out hstH.out)
                      have hvn : Hid (∀ l ∈ L ++ [ZL], Valid gs ts l) := Lib.hid (fun l hl => by
                        rcases List.mem_append.1 hl with hl | hl
                        · exact hval.out l hl
                        · simp at hl; subst hl; exact combE_valid hVx.out hVy.out hT1 hrH.out)
                      have hold := Lib.hid (Items.old hI.out)
                      have hul2 := hulH.out
                      go_wp2_with (at_builtin; refine wpList_append_own_at _ rfl _ _ 53 rfl w1.heap.size 31 i3 (.agg #[.slice none 0 0]) 1 24 Tryz.underlying53 hi3 hz03 hz13 hz23 rfl (by decide) _ N us rfl (Own2.outerN (Own2.alloc hI6.out _) hul2) ⟨w6.heap.size, 0, none⟩ 1 1 [.slice B ZL.length c5] rfl rfl (cell_one_newV _ _ _) (fun x hx => by simp at hx; subst hx; rfl) (by unfold maxLen; omega) (by omega) (by simp; omega) ?_; intro v7 w7 hown7 hgrow _ hob; have hI7 := Lib.hid (Items.push (L := L) (Z := ZL) (Own2.alloc hI6.out (Obj.cells #[.slice B ZL.length c5] 31)) (hown6.out.alloc (Obj.cells #[.slice B ZL.length c5] 31)) (show w1.heap.size ≤ wr.heap.size by omega) hold.out (by rw [hul2]; exact hown7) hgrow hob); have hb7 := Lib.hid (hbw6.out.trans (((Below.refl w1.heap.size w6).alloc (by omega) _).grown hgrow (by simp; omega) (fun g e => (Own2.lt hI6.out g e).1))); have s7 : w1.heap.size < w7.heap.size := Nat.lt_of_lt_of_le (show w1.heap.size < w6.heap.size by omega) (Nat.le_trans (by simp) hgrow.size); clear hown7 hgrow hob)
                      go_roundg (nf - (k + 1))
                      case measure => omega
                      case rel => exact ⟨k + 1, v7, _, L ++ [ZL], by omega, by go_num, rfl, by rw [List.length_append, hLlH.out]; simp; omega, hI7, hnx, hvn, hb7, s7⟩
                    · have hrR := Lib.hid (playG_fail hpl.out heH.out hstH.out hc0)
                      have hc1 : (c != 0) = true := by simpa using hc0
                      go_wp2
                      refine bodyPost_ret (v := .tuple #[.agg #[.slice none 0 0], .int .i64 (k : Int), .int .i64 c]) (by simp only [results, Tryz.results6]; go_simp) rfl ?_
                      exact PlRes.lift (base := w.heap.size) hrR.out rfl (World.ownsRow_nil _ _ _ _) (Nat.le_refl _) (hbW6.out.setCell (p := ⟨w.heap.size + 1, 0, none⟩) (by simp) _)
              · obtain rfl : k = nf := by omega
                obtain ⟨N1, rfl⟩ : ∃ N1, N = N1 + 1 := ⟨N - 1, by omega⟩
                obtain ⟨xs, hxl⟩ : ∃ l, L[N1]? = some l := ⟨_, List.getElem?_eq_getElem (by have := hLlH.out; omega)⟩
                have hVx := hval.out xs (List.mem_of_getElem? hxl)
                have hx5 : xs.length ≤ 500 := hVx.len
                obtain ⟨A1, ca, i1, hrx, _⟩ := Items.item hI.out hulH.out hxl
                have hend := playG_end hpl.out (by have := hlfH.out; omega)
                rw [List.getLast?_eq_getElem?, hLlH.out, Nat.add_sub_cancel, hxl] at hend
                have hendH := Lib.hid hend
                have hasm : Hid (AsmAt wr gI N1 xs) := Lib.hid ⟨hgI.2, A1, xs.length, ca, i1, hrx⟩
                have hk1 : ((N1 + 1 : Nat) : Int) - 1 = (N1 : Int) := by omega
                have hw1 : IntKind.i64.wrap (N1 : Int) = (N1 : Int) := wrap_in (by omega) (by omega)
                have hk2 : (N1 : Int) < ((N1 + 1 : Nat) : Int) := by omega
                have hk3 : N1 < N1 + 1 := by omega
                clear hrx hxl hend i1 hwN
                go_wp2_with fail
                refine (l03Own_op hasm.out (by omega)).mono ?_
                rintro e' w4 ⟨B, c4, rfl, hrow4, hb4⟩
                have s4 := hb4.size
                replace hr0 := (hb4.cell (p := ⟨w.heap.size + 1, 0, none⟩) l1).trans hr0
                replace hrf := (hb4.frozen (p := ⟨w.heap.size + 1, 0, none⟩) l1).trans hrf
                have hbw4 := Lib.hid (hbwr.out.trans (hb4.mono (by omega)))
                have hrow4H := Lib.hid (ownsRow_baseU hrow4 (show w.heap.size + 2 ≤ wr.heap.size by omega))
                replace l1 : w.heap.size + 1 < w4.heap.size := by omega
                clear hb4 hrow4
                go_wp2
                refine bodyPost_ret (v := .tuple #[.agg #[.slice B xs.length c4], .int .i64 0, .int .i64 0]) (by simp only [results, Tryz.results6]; go_simp) rfl ?_
                exact PlRes.lift (base := w.heap.size + 2) hendH.out rfl (ownsRow_setCell_below hrow4H.out (by simp) _) (by omega) (hbw4.out.setCell (p := ⟨w.heap.size + 1, 0, none⟩) (by simp) _)
end Go.Proofs.YtpdpkanlmhigfaaGreat
