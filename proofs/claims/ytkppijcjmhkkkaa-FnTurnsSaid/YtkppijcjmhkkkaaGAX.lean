import Derived.Test.YtkppijcjmhkkkaaGAW
set_option linter.unusedSimpArgs false
set_option linter.unusedVariables false
/- What JoinStrength computes; the program's walk. -/

namespace Go.Proofs.Ytkppijcjmhkkkaa
open Go.RowKit Go.Shelf
attribute [local go_sem] BelowBy.cell BelowBy.cell_drew stillUpon givesUpon BelowBy.cell_drew2 BelowBy.cell_drew3

theorem allB_ex {n : Nat} {p : Nat → Bool} (h : allB n p = false) : ∃ k, k < n ∧ p k = false := by
  simp only [allB, List.all_eq_false, List.mem_range] at h
  obtain ⟨k, hk, hp⟩ := h
  exact ⟨k, hk, by simpa using hp⟩
theorem lessPt_mv (ax ay bx b_y dx dy : Int) : lessPt (ax + dx) (ay + dy) (bx + dx) (b_y + dy) = lessPt ax ay bx b_y := by
  rw [Bool.eq_iff_iff, lessPt_iff, lessPt_iff]; omega
theorem hasForm_mv {gs : List Gl} {ts : List Ti} {ys : List Pl} (dx dy : Int) (hV : Valid gs ts ys) : hasFormB (mvL dx dy ys) = mvOk dx dy ys := by
  cases hm : mvOk dx dy ys
  · obtain ⟨k, hk, hp⟩ := allB_ex hm
    have he := List.getElem?_eq_getElem hk
    rw [okMv_eq he] at hp
    refine hasFormB_bad (k := k) (by rw [mvL_len]; exact hk) ?_
    cases k with
    | zero => rw [okPl_eq0 (mvL_get he)]; simp only [mvP]; rw [hp]; rfl
    | succ k => rw [okPl_eqS (mvL_get he) (mvL_get (List.getElem?_eq_getElem (by omega)))]; simp only [mvP]; rw [hp]; rfl
  · refine hasFormB_ok (by rw [mvL_len]; exact hV.len) (fun j hj => ?_)
    rw [mvL_len] at hj
    have he := List.getElem?_eq_getElem hj
    have hp := allB_at hm hj
    rw [okMv_eq he] at hp
    obtain ⟨t, ht, htl⟩ := hV.ti j _ he
    have htl2 := hV.tl
    have h2 : inB ys[j].t 0 159 = true := inB_true.2 (by omega)
    cases j with
    | zero => rw [okPl_eq0 (mvL_get he)]; simp only [mvP]; rw [hp, h2]; rfl
    | succ k =>
      have hd := List.getElem?_eq_getElem (l := ys) (i := k) (by omega)
      rw [okPl_eqS (mvL_get he) (mvL_get hd)]; simp only [mvP]; rw [hp, h2, lessPt_mv, hV.sorted k (k + 1) _ _ (by omega) hd he]; rfl
noncomputable def freeAt (xs ms : List Pl) (k : Nat) : Bool := match ms[k]? with
  | some e => decide (placeI xs e.x e.y < 0)
  | none => true
theorem freeAt_eq {xs ms : List Pl} {k : Nat} {e : Pl} (h : ms[k]? = some e) : freeAt xs ms k = decide (placeI xs e.x e.y < 0) := by unfold freeAt; rw [h]
noncomputable def sumJ (gs : List Gl) (ts : List Ti) (xs ms : List Pl) : Nat → Int
  | 0 => 0
  | k + 1 => sumJ gs ts xs ms k + (match ms[k]? with
    | some e => bindN gs ts xs e.x e.y e.t.toNat 4
    | none => 0)
theorem sumJ_bound {gs : List Gl} {ts : List Ti} {xs : List Pl} (hV : Valid gs ts xs) (ms : List Pl) (k : Nat) : 0 ≤ sumJ gs ts xs ms k ∧ sumJ gs ts xs ms k ≤ 16 * (k : Int) := by
  induction k with
  | zero => simp [sumJ]
  | succ k ih =>
    simp only [sumJ]
    split
    · rename_i e _
      have := bindN_bound hV e.x e.y e.t.toNat 4
      omega
    · omega
theorem sumJ_succ {gs : List Gl} {ts : List Ti} {xs ms : List Pl} {k t : Nat} {e : Pl} {S r : Int} (hS : sumJ gs ts xs ms k = S) (h : ms[k]? = some e) (ht : e.t = t) (hr : bindN gs ts xs e.x e.y t 4 = r) : sumJ gs ts xs ms (k + 1) = S + r := by
  simp only [sumJ, h]
  have : e.t.toNat = t := by omega
  rw [this, hS, hr]
noncomputable def joinE (gs : List Gl) (ts : List Ti) (xs ms : List Pl) : Int × Int := if allB ms.length (freeAt xs ms) = true then (sumJ gs ts xs ms ms.length, 0) else (0, 7)
noncomputable def joinM (gs : List Gl) (ts : List Ti) (xs ys : List Pl) (dx dy : Int) : Int × Int :=
  if inB dx (-120) 120 = false then (0, 2) else if inB dy (-120) 120 = false then (0, 2) else if mvOk dx dy ys = false then (0, 2) else joinE gs ts xs (mvL dx dy ys)
noncomputable def joinR (gs : List Gl) (ts : List Ti) (xs ys : List Pl) (dx dy : Int) : Int × Int :=
  if validAsmB gs ts xs = false then (0, 1) else if validAsmB gs ts ys = false then (0, 1) else joinM gs ts xs ys dx dy
theorem joinE_hit {gs : List Gl} {ts : List Ti} {xs ms : List Pl} {k : Nat} {e : Pl} {i : Nat} (h : ms[k]? = some e) (hp : placeI xs e.x e.y = i) : ((0, 7) : Int × Int) = joinE gs ts xs ms := by
  unfold joinE
  rw [allB_false (lt_of_get h) ((freeAt_eq h).trans (decide_eq_false (by omega))), if_neg (by decide)]
theorem joinE_all {gs : List Gl} {ts : List Ti} {xs ms : List Pl} (h : ∀ j, j < ms.length → freeAt xs ms j = true) : (sumJ gs ts xs ms ms.length, 0) = joinE gs ts xs ms := by
  unfold joinE
  rw [allB_true h, if_pos rfl]
/-- where the moved tiles stand -/
theorem mv_pt {gs : List Gl} {ts : List Ti} {ys : List Pl} {dx dy : Int} (hV : Valid gs ts ys) (hm : mvOk dx dy ys = true) {k : Nat} {e : Pl} (h : (mvL dx dy ys)[k]? = some e) : (-60 ≤ e.x ∧ e.x ≤ 60) ∧ (-60 ≤ e.y ∧ e.y ≤ 60) ∧ ∃ t : Nat, e.t = t ∧ t < ts.length := by
  have hk := lt_of_get h
  rw [mvL_len] at hk
  have he := List.getElem?_eq_getElem hk
  rw [mvL_get he] at h
  obtain rfl := Option.some.inj h
  have hp := allB_at hm hk
  rw [okMv_eq he] at hp
  simp only [validPt, Bool.and_eq_true, inB_true] at hp
  have ht := hV.ti k _ he
  exact ⟨hp.1, hp.2, ht⟩
end Go.Proofs.Ytkppijcjmhkkkaa
/- Walks: JoinStrength, the program's and the reference's. -/

namespace Go.Proofs.Ytkppijcjmhkkkaa
open Go.RowKit Go.Shelf
attribute [local go_sem] BelowBy.cell BelowBy.cell_drew stillUpon givesUpon BelowBy.cell_drew2 BelowBy.cell_drew3

def okA (ts : List Ti) (xs : List Pl) : Bool := hasFormB xs && allB xs.length (okTile ts.length xs)
def askJ (gs : List Gl) (ts : List Ti) (xs ys : List Pl) : Bool := validAsmB gs ts xs && validAsmB gs ts ys
theorem askJ_eq (gs : List Gl) (ts : List Ti) (xs ys : List Pl) : askJ gs ts xs ys = (validSetB gs ts && okA ts xs && okA ts ys) := by
  unfold askJ validAsmB okA
  cases validSetB gs ts <;> simp
def okM (dx dy : Int) (ys : List Pl) : Bool := inB dx (-120) 120 && inB dy (-120) 120 && mvOk dx dy ys
def MvRes2 (w : World) (dx dy : Int) (xs : List Pl) (e : Ending) (w' : World) : Prop :=
  ∃ B m c', e = .returned (.tuple #[.agg #[.slice B m c'], .bool (okM dx dy xs)]) ∧ (okM dx dy xs = true → m = xs.length ∧ RdSl 3 RPl w' B m (mvL dx dy xs)) ∧ Below w.heap.size w w'
end Go.Proofs.Ytkppijcjmhkkkaa
/- Plain facts: two assemblies put together are a row of both in order. -/

namespace Go.Proofs.Ytkppijcjmhkkkaa
open Go.RowKit
def ltPl (a b : Pl) : Bool := lessPt a.x a.y b.x b.y
def lePl (a b : Pl) : Bool := !ltPl b a
/-- placed tiles in order of their points -/
def sortPl (L : List Pl) : List Pl := L.mergeSort lePl
def apart (a b : Pl) : Prop := ¬ (a.x = b.x ∧ a.y = b.y)
def SortPl (L : List Pl) : Prop := L.Pairwise fun a b => ltPl a b = true
theorem ltPl_iff (a b : Pl) : ltPl a b = true ↔ a.y < b.y ∨ (a.y = b.y ∧ a.x < b.x) := lessPt_iff _ _ _ _
theorem lePl_iff (a b : Pl) : lePl a b = true ↔ a.y < b.y ∨ (a.y = b.y ∧ a.x ≤ b.x) := by
  unfold lePl
  have := ltPl_iff b a
  cases h : ltPl b a
  · rw [h] at this
    simp only [Bool.not_false, true_iff]
    have h2 : ¬ (b.y < a.y ∨ (b.y = a.y ∧ b.x < a.x)) := fun hc => by have := this.2 hc; cases this
    omega
  · rw [h] at this
    have h2 := this.1 rfl
    simp only [Bool.not_true, Bool.false_eq_true, false_iff]
    omega
theorem lePl_trans (a b c : Pl) (h : lePl a b = true) (k : lePl b c = true) : lePl a c = true := by
  rw [lePl_iff] at *; omega
theorem lePl_total (a b : Pl) : (lePl a b || lePl b a) = true := by
  rw [Bool.or_eq_true, lePl_iff, lePl_iff]; omega
theorem sortPl_len (L : List Pl) : (sortPl L).length = L.length := List.length_mergeSort _
theorem sortPl_mem {L : List Pl} {p : Pl} : p ∈ sortPl L ↔ p ∈ L := List.mem_mergeSort
theorem sortPl_weak (L : List Pl) : (sortPl L).Pairwise (fun a b => lePl a b = true) := List.pairwise_mergeSort lePl_trans lePl_total L
theorem apart_symm {a b : Pl} (h : apart a b) : apart b a := fun ⟨h1, h2⟩ => h ⟨h1.symm, h2.symm⟩
theorem SortPl.weak {L : List Pl} (h : SortPl L) : L.Pairwise (fun a b => lePl a b = true) := h.imp fun {a b} h => by
  rw [ltPl_iff] at h; rw [lePl_iff]; omega
theorem SortPl.apart {L : List Pl} (h : SortPl L) : L.Pairwise apart := h.imp fun {a b} h => by
  rw [ltPl_iff] at h; unfold Proofs.Ytkppijcjmhkkkaa.apart; omega
theorem sortPl_strict {L : List Pl} (h : L.Pairwise apart) : SortPl (sortPl L) := by
  have h1 : (sortPl L).Pairwise apart := (List.mergeSort_perm L lePl).symm.pairwise h apart_symm
  have h2 := sortPl_weak L
  refine (List.Pairwise.and h1 h2).imp ?_
  intro a b hab
  have h3 := (lePl_iff a b).1 hab.2
  have h4 : ¬ (a.x = b.x ∧ a.y = b.y) := hab.1
  rw [ltPl_iff]; omega
theorem merge_sortPl {xs ms : List Pl} (hx : SortPl xs) (hm : SortPl ms) (ha : (xs ++ ms).Pairwise apart) : List.merge xs ms lePl = sortPl (xs ++ ms) := by
  have hp : (List.merge xs ms lePl).Perm (xs ++ ms) := List.merge_perm_append lePl
  refine List.Perm.eq_of_pairwise (le := fun a b => ltPl a b = true) ?_ ?_ (sortPl_strict ha) (hp.trans (List.mergeSort_perm _ _).symm)
  · intro a b _ _ h1 h2
    rw [ltPl_iff] at h1 h2; omega
  · have h1 : (List.merge xs ms lePl).Pairwise apart := hp.symm.pairwise ha apart_symm
    have h2 : (List.merge xs ms lePl).Pairwise (fun a b => lePl a b = true) := List.pairwise_merge lePl_trans lePl_total _ _ hx.weak hm.weak
    refine (List.Pairwise.and h1 h2).imp ?_
    intro a b hab
    have h3 := (lePl_iff a b).1 hab.2
    have h4 : ¬ (a.x = b.x ∧ a.y = b.y) := hab.1
    rw [ltPl_iff]; omega
theorem free_apart {gs : List Gl} {ts : List Ti} {xs ms : List Pl} (hV : Valid gs ts xs) {j : Nat} {e : Pl} (he : ms[j]? = some e) (hf : freeAt xs ms j = true) : ∀ d ∈ xs, apart d e := by
  intro d hd ⟨hx, hy⟩
  obtain ⟨k, hk⟩ := List.getElem?_of_mem hd
  have := IsPlace.eq hV (place_found hk hx hy)
  rw [freeAt_eq he, decide_eq_true_eq] at hf
  omega
theorem sortPl_valid {gs : List Gl} {ts : List Ti} {xs : List Pl} (hV : Valid gs ts xs) : SortPl xs := by
  unfold SortPl
  rw [List.pairwise_iff_getElem]
  intro i j hi hj hij
  exact hV.sorted i j _ _ hij (List.getElem?_eq_getElem hi) (List.getElem?_eq_getElem hj)
theorem sortPl_mv {xs : List Pl} (h : SortPl xs) (dx dy : Int) : SortPl (mvL dx dy xs) := by
  unfold SortPl mvL
  rw [List.pairwise_map]
  refine List.Pairwise.imp ?_ h
  intro a b h
  unfold ltPl mvP at *
  simp only
  rw [lessPt_mv]
  exact h
/-- the facts of two assemblies of which the second stands free -/
structure Two (gs : List Gl) (ts : List Ti) (xs ms : List Pl) : Prop where
  V : Valid gs ts xs
  srt : SortPl ms
  pt : ∀ (k : Nat) (e : Pl), ms[k]? = some e → (-60 ≤ e.x ∧ e.x ≤ 60) ∧ (-60 ≤ e.y ∧ e.y ≤ 60) ∧ ∃ t : Nat, e.t = t ∧ t < ts.length
  fr : ∀ j, j < ms.length → freeAt xs ms j = true
theorem Two.apart {gs : List Gl} {ts : List Ti} {xs ms : List Pl} (h : Two gs ts xs ms) : (xs ++ ms).Pairwise apart := by
  rw [List.pairwise_append]
  refine ⟨(sortPl_valid h.V).apart, h.srt.apart, fun d hd e he => ?_⟩
  obtain ⟨k, hk⟩ := List.getElem?_of_mem he
  exact free_apart h.V hk (h.fr k (lt_of_get hk)) d hd
theorem Two.sorted {gs : List Gl} {ts : List Ti} {xs ms : List Pl} (h : Two gs ts xs ms) : SortPl (sortPl (xs ++ ms)) := sortPl_strict h.apart
theorem Two.merge {gs : List Gl} {ts : List Ti} {xs ms : List Pl} (h : Two gs ts xs ms) : List.merge xs ms lePl = sortPl (xs ++ ms) := merge_sortPl (sortPl_valid h.V) h.srt h.apart
theorem Two.valid {gs : List Gl} {ts : List Ti} {xs ms : List Pl} (h : Two gs ts xs ms) (hl : xs.length + ms.length ≤ 500) : Valid gs ts (sortPl (xs ++ ms)) := by
  have hmem : ∀ e ∈ sortPl (xs ++ ms), (-60 ≤ e.x ∧ e.x ≤ 60) ∧ (-60 ≤ e.y ∧ e.y ≤ 60) ∧ ∃ t : Nat, e.t = t ∧ t < ts.length := by
    intro e he
    rcases List.mem_append.1 (sortPl_mem.1 he) with he | he
    · obtain ⟨k, hk⟩ := List.getElem?_of_mem he
      exact ⟨(h.V.pt k e hk).1, (h.V.pt k e hk).2, h.V.ti k e hk⟩
    · obtain ⟨k, hk⟩ := List.getElem?_of_mem he
      exact h.pt k e hk
  refine { len := ?_, gl := h.V.gl, tl := h.V.tl, pt := ?_, ti := ?_, sorted := ?_, four := h.V.four, side := h.V.side, str := h.V.str }
  · rw [sortPl_len, List.length_append]; exact hl
  · intro k e hk
    have := hmem e (List.mem_of_getElem? hk)
    exact ⟨this.1, this.2.1⟩
  · intro k e hk
    exact (hmem e (List.mem_of_getElem? hk)).2.2
  · intro i j d e hij hd he
    obtain ⟨hi, rfl⟩ := List.getElem?_eq_some_iff.1 hd
    obtain ⟨hj, rfl⟩ := List.getElem?_eq_some_iff.1 he
    exact List.pairwise_iff_getElem.1 h.sorted i j hi hj hij
theorem mvOk_zero {gs : List Gl} {ts : List Ti} {xs : List Pl} (hV : Valid gs ts xs) : mvOk 0 0 xs = true := by
  refine allB_true fun j hj => ?_
  have he := List.getElem?_eq_getElem hj
  rw [okMv_eq he]
  have := hV.pt j _ he
  unfold validPt
  rw [Bool.and_eq_true, inB_true, inB_true]
  omega
theorem mvL_zero (xs : List Pl) : mvL 0 0 xs = xs := by
  unfold mvL
  have : mvP 0 0 = id := by funext e; cases e; simp [mvP]
  rw [this, List.map_id]
theorem hasForm_valid {gs : List Gl} {ts : List Ti} {xs : List Pl} (hV : Valid gs ts xs) : hasFormB xs = true := by
  have := hasForm_mv 0 0 hV
  rw [mvL_zero, mvOk_zero hV] at this
  exact this
/-- an assembly in normal form -/
def normE (zs : List Pl) : List Pl × Int := match zs with
  | [] => ([], 3)
  | e :: l => if mvOk (-e.x) (-e.y) (e :: l) = true then (mvL (-e.x) (-e.y) (e :: l), 0) else ([], 2)
theorem normE_ok {zs : List Pl} {e : Pl} (h : zs[0]? = some e) (hm : mvOk (-e.x) (-e.y) zs = true) : (mvL (-e.x) (-e.y) zs, 0) = normE zs := by
  cases zs with
  | nil => simp at h
  | cons d l =>
    simp at h
    subst h
    exact (if_pos hm).symm
theorem normE_no {zs : List Pl} {e : Pl} (h : zs[0]? = some e) (hm : mvOk (-e.x) (-e.y) zs = false) : (([], 2) : List Pl × Int) = normE zs := by
  cases zs with
  | nil => simp at h
  | cons d l =>
    simp at h
    subst h
    exact (if_neg (by rw [hm]; decide)).symm
noncomputable def combE (gs : List Gl) (ts : List Ti) (xs ys : List Pl) (T dx dy : Int) : List Pl × Int :=
  if (joinM gs ts xs ys dx dy).2 = 0 then
    if (joinM gs ts xs ys dx dy).1 < T then ([], 5)
    else if 500 < xs.length + ys.length then ([], 4) else normE (sortPl (xs ++ mvL dx dy ys))
  else ([], (joinM gs ts xs ys dx dy).2)
noncomputable def combR (gs : List Gl) (ts : List Ti) (xs ys : List Pl) (T dx dy : Int) : List Pl × Int :=
  if askJ gs ts xs ys = false then ([], 1) else if inB T 1 16 = false then ([], 2) else combE gs ts xs ys T dx dy
theorem combE_code {gs : List Gl} {ts : List Ti} {xs ys : List Pl} {T dx dy s c : Int} (h : joinM gs ts xs ys dx dy = (s, c)) (hc : ¬ c = 0) : (([], c) : List Pl × Int) = combE gs ts xs ys T dx dy := by
  unfold combE; rw [h, if_neg hc]
theorem combE_weak {gs : List Gl} {ts : List Ti} {xs ys : List Pl} {T dx dy s : Int} (h : joinM gs ts xs ys dx dy = (s, 0)) (hs : s < T) : (([], 5) : List Pl × Int) = combE gs ts xs ys T dx dy := by
  unfold combE; rw [h, if_pos rfl, if_pos hs]
theorem combE_full {gs : List Gl} {ts : List Ti} {xs ys : List Pl} {T dx dy s : Int} (h : joinM gs ts xs ys dx dy = (s, 0)) (hs : ¬ s < T) (hl : 500 < xs.length + ys.length) : (([], 4) : List Pl × Int) = combE gs ts xs ys T dx dy := by
  unfold combE; rw [h, if_pos rfl, if_neg hs, if_pos hl]
theorem combE_norm {gs : List Gl} {ts : List Ti} {xs ys : List Pl} {T dx dy s : Int} (h : joinM gs ts xs ys dx dy = (s, 0)) (hs : ¬ s < T) (hl : ¬ 500 < xs.length + ys.length) : normE (sortPl (xs ++ mvL dx dy ys)) = combE gs ts xs ys T dx dy := by
  unfold combE; rw [h, if_pos rfl, if_neg hs, if_neg hl]
/-- what a strength without an error says -/
theorem joinM_ok {gs : List Gl} {ts : List Ti} {xs ys : List Pl} {dx dy s : Int} (hV : Valid gs ts xs) (hV2 : Valid gs ts ys) (h : joinM gs ts xs ys dx dy = (s, 0)) :
    inB dx (-120) 120 = true ∧ inB dy (-120) 120 = true ∧ mvOk dx dy ys = true ∧ Two gs ts xs (mvL dx dy ys) ∧ s = sumJ gs ts xs (mvL dx dy ys) (mvL dx dy ys).length := by
  unfold joinM at h
  cases hx : inB dx (-120) 120
  · rw [if_pos hx] at h; injection h with h1 h2; cases h2
  cases hy : inB dy (-120) 120
  · rw [if_neg (by rw [hx]; decide), if_pos hy] at h; injection h with h1 h2; cases h2
  cases hm : mvOk dx dy ys
  · rw [if_neg (by rw [hx]; decide), if_neg (by rw [hy]; decide), if_pos hm] at h; injection h with h1 h2; cases h2
  rw [if_neg (by rw [hx]; decide), if_neg (by rw [hy]; decide), if_neg (by rw [hm]; decide)] at h
  unfold joinE at h
  by_cases hf : allB (mvL dx dy ys).length (freeAt xs (mvL dx dy ys)) = true
  · rw [if_pos hf] at h
    injection h with h1 h2
    exact ⟨rfl, rfl, rfl, ⟨hV, sortPl_mv (sortPl_valid hV2) dx dy, fun k e h => mv_pt hV2 hm h, fun j hj => allB_at hf hj⟩, h1.symm⟩
  · rw [if_neg hf] at h; injection h with h1 h2; cases h2
theorem join_first {gs : List Gl} {ts : List Ti} {xs ms : List Pl} {T s : Int} (hT : 1 ≤ T) (hs : ¬ s < T) (h : s = sumJ gs ts xs ms ms.length) : ∃ e, (sortPl (xs ++ ms))[0]? = some e := by
  cases ms with
  | nil => simp [sumJ] at h; omega
  | cons d l => exact ⟨_, List.getElem?_eq_getElem (by rw [sortPl_len]; simp; omega)⟩
end Go.Proofs.Ytkppijcjmhkkkaa
