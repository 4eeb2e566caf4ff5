import Derived.Test.YtpnahobgmemdjaaGAY
import Derived.Test.YtpnahobgmemdjaaGAX
import Derived.Test.YtpnahobgmemdjaaGAO
import Derived.Test.YtpnahobgmemdjaaGAU
set_option linter.unusedSimpArgs false
set_option linter.unusedVariables false
/- Plain facts: two assemblies put together are a row of both in order. -/

namespace Go.Proofs.Ytpnahobgmemdjaa
open Go.RowKit
def ltPl (a b : Pl) : Bool := lessPt a.x a.y b.x b.y
def lePl (a b : Pl) : Bool := !ltPl b a
/-- placed tiles in order of their points -/
def sortPl (L : List Pl) : List Pl := L.mergeSort lePl
def apart (a b : Pl) : Prop := ¬ (a.x = b.x ∧ a.y = b.y)
def SortPl (L : List Pl) : Prop := L.Pairwise fun a b => ltPl a b = true
theorem ltPl_iff (a b : Pl) : ltPl a b = true ↔ a.y < b.y ∨ (a.y = b.y ∧ a.x < b.x) := lessPt_iff _ _ _ _
theorem lePl_iff (a b : Pl) : lePl a b = true ↔ a.y < b.y ∨ (a.y = b.y ∧ a.x ≤ b.x) := by
  unfold lePl
  have := ltPl_iff b a
  cases h : ltPl b a
  · rw [h] at this
    simp only [Bool.not_false, true_iff]
    have h2 : ¬ (b.y < a.y ∨ (b.y = a.y ∧ b.x < a.x)) := fun hc => by have := this.2 hc; cases this
    omega
  · rw [h] at this
    have h2 := this.1 rfl
    simp only [Bool.not_true, Bool.false_eq_true, false_iff]
    omega
theorem lePl_trans (a b c : Pl) (h : lePl a b = true) (k : lePl b c = true) : lePl a c = true := by
  rw [lePl_iff] at *; omega
theorem lePl_total (a b : Pl) : (lePl a b || lePl b a) = true := by
  rw [Bool.or_eq_true, lePl_iff, lePl_iff]; omega
theorem sortPl_len (L : List Pl) : (sortPl L).length = L.length := List.length_mergeSort _
theorem sortPl_mem {L : List Pl} {p : Pl} : p ∈ sortPl L ↔ p ∈ L := List.mem_mergeSort
theorem sortPl_weak (L : List Pl) : (sortPl L).Pairwise (fun a b => lePl a b = true) := List.pairwise_mergeSort lePl_trans lePl_total L
theorem apart_symm {a b : Pl} (h : apart a b) : apart b a := fun ⟨h1, h2⟩ => h ⟨h1.symm, h2.symm⟩
theorem SortPl.weak {L : List Pl} (h : SortPl L) : L.Pairwise (fun a b => lePl a b = true) := h.imp fun {a b} h => by
  rw [ltPl_iff] at h; rw [lePl_iff]; omega
theorem SortPl.apart {L : List Pl} (h : SortPl L) : L.Pairwise apart := h.imp fun {a b} h => by
  rw [ltPl_iff] at h; unfold Proofs.Ytpnahobgmemdjaa.apart; omega
theorem sortPl_strict {L : List Pl} (h : L.Pairwise apart) : SortPl (sortPl L) := by
  have h1 : (sortPl L).Pairwise apart := (List.mergeSort_perm L lePl).symm.pairwise h apart_symm
  have h2 := sortPl_weak L
  refine (List.Pairwise.and h1 h2).imp ?_
  intro a b hab
  have h3 := (lePl_iff a b).1 hab.2
  have h4 : ¬ (a.x = b.x ∧ a.y = b.y) := hab.1
  rw [ltPl_iff]; omega
theorem merge_sortPl {xs ms : List Pl} (hx : SortPl xs) (hm : SortPl ms) (ha : (xs ++ ms).Pairwise apart) : List.merge xs ms lePl = sortPl (xs ++ ms) := by
  have hp : (List.merge xs ms lePl).Perm (xs ++ ms) := List.merge_perm_append lePl
  refine List.Perm.eq_of_pairwise (le := fun a b => ltPl a b = true) ?_ ?_ (sortPl_strict ha) (hp.trans (List.mergeSort_perm _ _).symm)
  · intro a b _ _ h1 h2
    rw [ltPl_iff] at h1 h2; omega
  · have h1 : (List.merge xs ms lePl).Pairwise apart := hp.symm.pairwise ha apart_symm
    have h2 : (List.merge xs ms lePl).Pairwise (fun a b => lePl a b = true) := List.pairwise_merge lePl_trans lePl_total _ _ hx.weak hm.weak
    refine (List.Pairwise.and h1 h2).imp ?_
    intro a b hab
    have h3 := (lePl_iff a b).1 hab.2
    have h4 : ¬ (a.x = b.x ∧ a.y = b.y) := hab.1
    rw [ltPl_iff]; omega
theorem free_apart {gs : List Gl} {ts : List Ti} {xs ms : List Pl} (hV : Valid gs ts xs) {j : Nat} {e : Pl} (he : ms[j]? = some e) (hf : freeAt xs ms j = true) : ∀ d ∈ xs, apart d e := by
  intro d hd ⟨hx, hy⟩
  obtain ⟨k, hk⟩ := List.getElem?_of_mem hd
  have := IsPlace.eq hV (place_found hk hx hy)
  rw [freeAt_eq he, decide_eq_true_eq] at hf
  omega
theorem sortPl_valid {gs : List Gl} {ts : List Ti} {xs : List Pl} (hV : Valid gs ts xs) : SortPl xs := by
  unfold SortPl
  rw [List.pairwise_iff_getElem]
  intro i j hi hj hij
  exact hV.sorted i j _ _ hij (List.getElem?_eq_getElem hi) (List.getElem?_eq_getElem hj)
theorem sortPl_mv {xs : List Pl} (h : SortPl xs) (dx dy : Int) : SortPl (mvL dx dy xs) := by
  unfold SortPl mvL
  rw [List.pairwise_map]
  refine List.Pairwise.imp ?_ h
  intro a b h
  unfold ltPl mvP at *
  simp only
  rw [lessPt_mv]
  exact h
/-- the facts of two assemblies of which the second stands free -/
structure Two (gs : List Gl) (ts : List Ti) (xs ms : List Pl) : Prop where
  V : Valid gs ts xs
  srt : SortPl ms
  pt : ∀ (k : Nat) (e : Pl), ms[k]? = some e → (-60 ≤ e.x ∧ e.x ≤ 60) ∧ (-60 ≤ e.y ∧ e.y ≤ 60) ∧ ∃ t : Nat, e.t = t ∧ t < ts.length
  fr : ∀ j, j < ms.length → freeAt xs ms j = true
theorem Two.apart {gs : List Gl} {ts : List Ti} {xs ms : List Pl} (h : Two gs ts xs ms) : (xs ++ ms).Pairwise apart := by
  rw [List.pairwise_append]
  refine ⟨(sortPl_valid h.V).apart, h.srt.apart, fun d hd e he => ?_⟩
  obtain ⟨k, hk⟩ := List.getElem?_of_mem he
  exact free_apart h.V hk (h.fr k (lt_of_get hk)) d hd
theorem Two.sorted {gs : List Gl} {ts : List Ti} {xs ms : List Pl} (h : Two gs ts xs ms) : SortPl (sortPl (xs ++ ms)) := sortPl_strict h.apart
theorem Two.merge {gs : List Gl} {ts : List Ti} {xs ms : List Pl} (h : Two gs ts xs ms) : List.merge xs ms lePl = sortPl (xs ++ ms) := merge_sortPl (sortPl_valid h.V) h.srt h.apart
theorem Two.valid {gs : List Gl} {ts : List Ti} {xs ms : List Pl} (h : Two gs ts xs ms) (hl : xs.length + ms.length ≤ 500) : Valid gs ts (sortPl (xs ++ ms)) := by
  have hmem : ∀ e ∈ sortPl (xs ++ ms), (-60 ≤ e.x ∧ e.x ≤ 60) ∧ (-60 ≤ e.y ∧ e.y ≤ 60) ∧ ∃ t : Nat, e.t = t ∧ t < ts.length := by
    intro e he
    rcases List.mem_append.1 (sortPl_mem.1 he) with he | he
    · obtain ⟨k, hk⟩ := List.getElem?_of_mem he
      exact ⟨(h.V.pt k e hk).1, (h.V.pt k e hk).2, h.V.ti k e hk⟩
    · obtain ⟨k, hk⟩ := List.getElem?_of_mem he
      exact h.pt k e hk
  refine { len := ?_, gl := h.V.gl, tl := h.V.tl, pt := ?_, ti := ?_, sorted := ?_, four := h.V.four, side := h.V.side, str := h.V.str }
  · rw [sortPl_len, List.length_append]; exact hl
  · intro k e hk
    have := hmem e (List.mem_of_getElem? hk)
    exact ⟨this.1, this.2.1⟩
  · intro k e hk
    exact (hmem e (List.mem_of_getElem? hk)).2.2
  · intro i j d e hij hd he
    obtain ⟨hi, rfl⟩ := List.getElem?_eq_some_iff.1 hd
    obtain ⟨hj, rfl⟩ := List.getElem?_eq_some_iff.1 he
    exact List.pairwise_iff_getElem.1 h.sorted i j hi hj hij
theorem mvOk_zero {gs : List Gl} {ts : List Ti} {xs : List Pl} (hV : Valid gs ts xs) : mvOk 0 0 xs = true := by
  refine allB_true fun j hj => ?_
  have he := List.getElem?_eq_getElem hj
  rw [okMv_eq he]
  have := hV.pt j _ he
  unfold validPt
  rw [Bool.and_eq_true, inB_true, inB_true]
  omega
theorem mvL_zero (xs : List Pl) : mvL 0 0 xs = xs := by
  unfold mvL
  have : mvP 0 0 = id := by funext e; cases e; simp [mvP]
  rw [this, List.map_id]
theorem hasForm_valid {gs : List Gl} {ts : List Ti} {xs : List Pl} (hV : Valid gs ts xs) : hasFormB xs = true := by
  have := hasForm_mv 0 0 hV
  rw [mvL_zero, mvOk_zero hV] at this
  exact this
/-- an assembly in normal form -/
def normE (zs : List Pl) : List Pl × Int := match zs with
  | [] => ([], 3)
  | e :: l => if mvOk (-e.x) (-e.y) (e :: l) = true then (mvL (-e.x) (-e.y) (e :: l), 0) else ([], 2)
theorem normE_ok {zs : List Pl} {e : Pl} (h : zs[0]? = some e) (hm : mvOk (-e.x) (-e.y) zs = true) : (mvL (-e.x) (-e.y) zs, 0) = normE zs := by
  cases zs with
  | nil => simp at h
  | cons d l =>
    simp at h
    subst h
    exact (if_pos hm).symm
theorem normE_no {zs : List Pl} {e : Pl} (h : zs[0]? = some e) (hm : mvOk (-e.x) (-e.y) zs = false) : (([], 2) : List Pl × Int) = normE zs := by
  cases zs with
  | nil => simp at h
  | cons d l =>
    simp at h
    subst h
    exact (if_neg (by rw [hm]; decide)).symm
noncomputable def combE (gs : List Gl) (ts : List Ti) (xs ys : List Pl) (T dx dy : Int) : List Pl × Int :=
  if (joinM gs ts xs ys dx dy).2 = 0 then
    if (joinM gs ts xs ys dx dy).1 < T then ([], 5)
    else if 500 < xs.length + ys.length then ([], 4) else normE (sortPl (xs ++ mvL dx dy ys))
  else ([], (joinM gs ts xs ys dx dy).2)
noncomputable def combR (gs : List Gl) (ts : List Ti) (xs ys : List Pl) (T dx dy : Int) : List Pl × Int :=
  if askJ gs ts xs ys = false then ([], 1) else if inB T 1 16 = false then ([], 2) else combE gs ts xs ys T dx dy
theorem combE_code {gs : List Gl} {ts : List Ti} {xs ys : List Pl} {T dx dy s c : Int} (h : joinM gs ts xs ys dx dy = (s, c)) (hc : ¬ c = 0) : (([], c) : List Pl × Int) = combE gs ts xs ys T dx dy := by
  unfold combE; rw [h, if_neg hc]
theorem combE_weak {gs : List Gl} {ts : List Ti} {xs ys : List Pl} {T dx dy s : Int} (h : joinM gs ts xs ys dx dy = (s, 0)) (hs : s < T) : (([], 5) : List Pl × Int) = combE gs ts xs ys T dx dy := by
  unfold combE; rw [h, if_pos rfl, if_pos hs]
theorem combE_full {gs : List Gl} {ts : List Ti} {xs ys : List Pl} {T dx dy s : Int} (h : joinM gs ts xs ys dx dy = (s, 0)) (hs : ¬ s < T) (hl : 500 < xs.length + ys.length) : (([], 4) : List Pl × Int) = combE gs ts xs ys T dx dy := by
  unfold combE; rw [h, if_pos rfl, if_neg hs, if_pos hl]
theorem combE_norm {gs : List Gl} {ts : List Ti} {xs ys : List Pl} {T dx dy s : Int} (h : joinM gs ts xs ys dx dy = (s, 0)) (hs : ¬ s < T) (hl : ¬ 500 < xs.length + ys.length) : normE (sortPl (xs ++ mvL dx dy ys)) = combE gs ts xs ys T dx dy := by
  unfold combE; rw [h, if_pos rfl, if_neg hs, if_neg hl]
/-- what a strength without an error says -/
theorem joinM_ok {gs : List Gl} {ts : List Ti} {xs ys : List Pl} {dx dy s : Int} (hV : Valid gs ts xs) (hV2 : Valid gs ts ys) (h : joinM gs ts xs ys dx dy = (s, 0)) :
    inB dx (-120) 120 = true ∧ inB dy (-120) 120 = true ∧ mvOk dx dy ys = true ∧ Two gs ts xs (mvL dx dy ys) ∧ s = sumJ gs ts xs (mvL dx dy ys) (mvL dx dy ys).length := by
  unfold joinM at h
  cases hx : inB dx (-120) 120
  · rw [if_pos hx] at h; injection h with h1 h2; cases h2
  cases hy : inB dy (-120) 120
  · rw [if_neg (by rw [hx]; decide), if_pos hy] at h; injection h with h1 h2; cases h2
  cases hm : mvOk dx dy ys
  · rw [if_neg (by rw [hx]; decide), if_neg (by rw [hy]; decide), if_pos hm] at h; injection h with h1 h2; cases h2
  rw [if_neg (by rw [hx]; decide), if_neg (by rw [hy]; decide), if_neg (by rw [hm]; decide)] at h
  unfold joinE at h
  by_cases hf : allB (mvL dx dy ys).length (freeAt xs (mvL dx dy ys)) = true
  · rw [if_pos hf] at h
    injection h with h1 h2
    exact ⟨rfl, rfl, rfl, ⟨hV, sortPl_mv (sortPl_valid hV2) dx dy, fun k e h => mv_pt hV2 hm h, fun j hj => allB_at hf hj⟩, h1.symm⟩
  · rw [if_neg hf] at h; injection h with h1 h2; cases h2
theorem join_first {gs : List Gl} {ts : List Ti} {xs ms : List Pl} {T s : Int} (hT : 1 ≤ T) (hs : ¬ s < T) (h : s = sumJ gs ts xs ms ms.length) : ∃ e, (sortPl (xs ++ ms))[0]? = some e := by
  cases ms with
  | nil => simp [sumJ] at h; omega
  | cons d l => exact ⟨_, List.getElem?_eq_getElem (by rw [sortPl_len]; simp; omega)⟩
end Go.Proofs.Ytpnahobgmemdjaa
/- Plain: a small shape scaled, as points and as tiles; read back, and moved home. -/



namespace Go.Proofs.Ytpnahobgmemdjaa
open Go.RowKit
/-- a small shape: points in order, near the origin -/
structure Sm (ps : List Pt) (B : Nat) : Prop where
  srt : SortS ps
  rng : ∀ p ∈ ps, (-(B : Int) ≤ p.x ∧ p.x ≤ B) ∧ (-(B : Int) ≤ p.y ∧ p.y ≤ B)
theorem shapeB_of {L : List Pt} (h : SortS L) (hp : ∀ p ∈ L, (-60 ≤ p.x ∧ p.x ≤ 60) ∧ (-60 ≤ p.y ∧ p.y ≤ 60)) (h1 : 1 ≤ L.length) (h5 : L.length ≤ 500) : shapeB L = true := by
  rw [shapeB_ok, decide_eq_true ⟨h1, h5⟩]
  intro j hj
  obtain ⟨e, he⟩ : ∃ e, L[j]? = some e := ⟨_, List.getElem?_eq_getElem hj⟩
  have hv : validPt e.x e.y = true := by
    have := hp e (List.mem_of_getElem? he)
    simp only [validPt, Bool.and_eq_true, inB_true]; exact this
  cases j with
  | zero => rw [okPt_eq0 he]; exact hv
  | succ j =>
    obtain ⟨d, hd⟩ : ∃ d, L[j]? = some d := ⟨_, List.getElem?_eq_getElem (by omega)⟩
    have hl : lessPt d.x d.y e.x e.y = true := h.get (Nat.lt_succ_self j) hd he
    rw [okPt_eqS he hd, hv, hl]
    rfl
theorem Sm.shape {ps : List Pt} {B : Nat} (h : Sm ps B) (hB : B ≤ 60) (h1 : 1 ≤ ps.length) (h5 : ps.length ≤ 500) : shapeB ps = true :=
  shapeB_of h.srt (fun p hp => by have := h.rng p hp; omega) h1 h5
/-- tiles at the points, by their places -/
def asmN (ps : List Pt) (j : Nat) : List Pl := (List.range j).map fun i => ⟨(ptAt ps i).x, (ptAt ps i).y, (i : Int)⟩
def asmP (ps : List Pt) : List Pl := asmN ps ps.length
theorem asmN_succ {ps : List Pt} {j : Nat} {e : Pt} (h : ps[j]? = some e) : asmN ps (j + 1) = asmN ps j ++ [⟨e.x, e.y, (j : Int)⟩] := by
  unfold asmN; rw [List.range_succ, List.map_append, List.map_cons, List.map_nil, ptAt_of h]
theorem asmN_len (ps : List Pt) (j : Nat) : (asmN ps j).length = j := by simp [asmN]
theorem asmP_get {ps : List Pt} {i : Nat} {p : Pt} (h : ps[i]? = some p) : (asmP ps)[i]? = some ⟨p.x, p.y, (i : Int)⟩ := by
  have hi := (List.getElem?_eq_some_iff.1 h).1
  unfold asmP asmN
  rw [List.getElem?_map, List.getElem?_range hi, Option.map_some, ptAt_of h]
theorem asmP_at {ps : List Pt} {i : Nat} {e : Pl} (h : (asmP ps)[i]? = some e) : ∃ p, ps[i]? = some p ∧ e = ⟨p.x, p.y, (i : Int)⟩ := by
  have hi := (List.getElem?_eq_some_iff.1 h).1
  unfold asmP at hi
  rw [asmN_len] at hi
  obtain ⟨p, hp⟩ : ∃ p, ps[i]? = some p := ⟨_, List.getElem?_eq_getElem hi⟩
  rw [asmP_get hp] at h
  exact ⟨p, hp, (Option.some.inj h).symm⟩
theorem asmP_form {ps : List Pt} {B : Nat} (h : Sm ps B) (hB : B ≤ 60) (h5 : ps.length ≤ 160) : hasFormB (asmP ps) = true := by
  have hl : (asmP ps).length = ps.length := asmN_len _ _
  refine hasFormB_ok (by omega) fun j hj => ?_
  obtain ⟨e, he⟩ : ∃ e, (asmP ps)[j]? = some e := ⟨_, List.getElem?_eq_getElem hj⟩
  obtain ⟨p, hp, rfl⟩ := asmP_at he
  have hv : validPt p.x p.y = true := by
    have := h.rng p (List.mem_of_getElem? hp)
    simp only [validPt, Bool.and_eq_true, inB_true]; omega
  have ht : inB (j : Int) 0 159 = true := inB_true.2 (by omega)
  cases j with
  | zero =>
    unfold okPl
    rw [he]
    simp only [hv, ht, Bool.and_self]
  | succ j =>
    obtain ⟨d, hd⟩ : ∃ d, (asmP ps)[j]? = some d := ⟨_, List.getElem?_eq_getElem (by omega)⟩
    obtain ⟨q, hq, rfl⟩ := asmP_at hd
    have hl : lessPt q.x q.y p.x p.y = true := h.srt.get (Nat.lt_succ_self j) hq hp
    rw [okPl_eqS he hd]
    simp only
    rw [hv, ht, hl]
    rfl
/-- the points of a scaled shape, as the program makes them -/
def colP (k : Nat) (p : Pt) (i : Nat) (m : Nat) : List Pt := (List.range m).map fun (j : Nat) => ⟨(k : Int) * p.x + (i : Int), (k : Int) * p.y + (j : Int)⟩
def blkS (k : Nat) (p : Pt) (m : Nat) : List Pt := (List.range m).flatMap fun i => colP k p i k
def scalN (k : Nat) (ps : List Pt) (j : Nat) : List Pt := (List.range j).flatMap fun v => blkS k (ptAt ps v) k
def scalP (k : Nat) (ps : List Pt) : List Pt := scalN k ps ps.length
def scS (k : Nat) (ps : List Pt) : List Pt := putAll [] (scalP k ps)
theorem flatMap_succ {α : Type} (f : Nat → List α) (j : Nat) : (List.range (j + 1)).flatMap f = (List.range j).flatMap f ++ f j := by
  rw [List.range_succ, List.flatMap_append]; simp
theorem colP_len (k : Nat) (p : Pt) (i m : Nat) : (colP k p i m).length = m := by simp [colP]
theorem flatMap_len {α : Type} (f : Nat → List α) (c : Nat) (h : ∀ i, (f i).length = c) : ∀ j, ((List.range j).flatMap f).length = j * c
  | 0 => by simp
  | j + 1 => by rw [flatMap_succ, List.length_append, flatMap_len f c h j, h, Nat.succ_mul]
theorem blkS_len (k : Nat) (p : Pt) (m : Nat) : (blkS k p m).length = m * k := flatMap_len _ _ (fun i => colP_len k p i k) m
theorem scalN_len (k : Nat) (ps : List Pt) (j : Nat) : (scalN k ps j).length = j * (k * k) := flatMap_len _ _ (fun v => blkS_len k _ k) j
theorem scalP_mem {k : Nat} {ps : List Pt} {q : Pt} : q ∈ scalP k ps ↔ ∃ p ∈ ps, ∃ i j : Nat, i < k ∧ j < k ∧ q = ⟨(k : Int) * p.x + (i : Int), (k : Int) * p.y + (j : Int)⟩ := by
  unfold scalP scalN blkS colP
  simp only [List.mem_flatMap, List.mem_map, List.mem_range]
  constructor
  · rintro ⟨v, hv, i, hi, j, hj, rfl⟩
    have h := List.getElem?_eq_getElem hv
    exact ⟨ps[v], List.getElem_mem hv, i, j, hi, hj, by rw [ptAt_of h]⟩
  · rintro ⟨p, hp, i, j, hi, hj, rfl⟩
    obtain ⟨v, hv⟩ := List.getElem?_of_mem hp
    exact ⟨v, (List.getElem?_eq_some_iff.1 hv).1, i, hi, j, hj, by rw [ptAt_of hv]⟩
theorem scS_sorted (k : Nat) (ps : List Pt) : SortS (scS k ps) := putAll_sorted _ _ List.Pairwise.nil
theorem scS_mem {k : Nat} {ps : List Pt} {q : Pt} : q ∈ scS k ps ↔ ∃ p ∈ ps, ∃ i j : Nat, i < k ∧ j < k ∧ q = ⟨(k : Int) * p.x + (i : Int), (k : Int) * p.y + (j : Int)⟩ := by
  unfold scS; rw [putAll_mem, scalP_mem]; simp
theorem k123 {k : Nat} (h : 1 ≤ k ∧ k ≤ 3) : k = 1 ∨ k = 2 ∨ k = 3 := by omega
theorem cell_inj {k : Nat} (hk : 1 ≤ k ∧ k ≤ 3) {x y : Int} {a b : Nat} (ha : a < k) (hb : b < k) (h : (k : Int) * x + (a : Int) = (k : Int) * y + (b : Int)) : x = y ∧ a = b := by
  rcases k123 hk with rfl | rfl | rfl <;> omega
theorem cell_div {k : Nat} (hk : 1 ≤ k ∧ k ≤ 3) {x : Int} {a : Nat} (ha : a < k) : ((k : Int) * x + (a : Int)) / (k : Int) = x := by
  rcases k123 hk with rfl | rfl | rfl <;> omega
theorem cell_rng {k B : Nat} (hk : 1 ≤ k ∧ k ≤ 3) {x : Int} {a : Nat} (ha : a < k) (h : -(B : Int) ≤ x ∧ x ≤ B) : -((3 * B + 2 : Nat) : Int) ≤ (k : Int) * x + (a : Int) ∧ (k : Int) * x + (a : Int) ≤ ((3 * B + 2 : Nat) : Int) := by
  rcases k123 hk with rfl | rfl | rfl <;> omega
/-- a scaled shape is scaled back -/
theorem unscale {k B : Nat} (hk : 1 ≤ k ∧ k ≤ 3) {ps : List Pt} (h : Sm ps B) : putAll [] ((scS k ps).map fun q => ⟨q.x / (k : Int), q.y / (k : Int)⟩) = ps := by
  refine SortS.ext (putAll_sorted _ _ List.Pairwise.nil) h.srt fun p => ?_
  rw [putAll_mem, List.mem_map]
  constructor
  · rintro (hp | ⟨q, hq, rfl⟩)
    · cases hp
    · obtain ⟨p, hp, i, j, hi, hj, rfl⟩ := scS_mem.1 hq
      simp only [cell_div hk hi, cell_div hk hj]
      exact hp
  · intro hp
    refine .inr ⟨⟨(k : Int) * p.x + ((0 : Nat) : Int), (k : Int) * p.y + ((0 : Nat) : Int)⟩, scS_mem.2 ⟨p, hp, 0, 0, by omega, by omega, rfl⟩, ?_⟩
    simp only [cell_div hk (show 0 < k by omega)]
/-- the tiles of a scaled assembly, as the program makes them -/
def cellT (k : Nat) (t : Pl) (m : Nat) : List Pl := (List.range m).map fun i => ⟨(k : Int) * t.x + ((i % k : Nat) : Int), (k : Int) * t.y + ((i / k : Nat) : Int), t.t * ((k * k : Nat) : Int) + (i : Int)⟩
def upN (k : Nat) (xs : List Pl) (j : Nat) : List Pl := (List.range j).flatMap fun v => cellT k (plAt xs v) (k * k)
def upT (k : Nat) (xs : List Pl) : List Pl := upN k xs xs.length
theorem cellT_len (k : Nat) (t : Pl) (m : Nat) : (cellT k t m).length = m := by simp [cellT]
theorem cellT_succ (k : Nat) (t : Pl) (m : Nat) : cellT k t (m + 1) = cellT k t m ++ [⟨(k : Int) * t.x + ((m % k : Nat) : Int), (k : Int) * t.y + ((m / k : Nat) : Int), t.t * ((k * k : Nat) : Int) + (m : Int)⟩] := by simp [cellT, List.range_succ]
theorem upN_len (k : Nat) (xs : List Pl) (j : Nat) : (upN k xs j).length = j * (k * k) := flatMap_len _ _ (fun v => cellT_len k _ _) j
theorem upT_mem {k : Nat} {xs : List Pl} {e : Pl} : e ∈ upT k xs ↔ ∃ t ∈ xs, ∃ i : Nat, i < k * k ∧ e = ⟨(k : Int) * t.x + ((i % k : Nat) : Int), (k : Int) * t.y + ((i / k : Nat) : Int), t.t * ((k * k : Nat) : Int) + (i : Int)⟩ := by
  unfold upT upN cellT
  simp only [List.mem_flatMap, List.mem_map, List.mem_range]
  constructor
  · rintro ⟨v, hv, i, hi, rfl⟩
    have h := List.getElem?_eq_getElem hv
    exact ⟨xs[v], List.getElem_mem hv, i, hi, by rw [plAt_of h]⟩
  · rintro ⟨t, ht, i, hi, rfl⟩
    obtain ⟨v, hv⟩ := List.getElem?_of_mem ht
    exact ⟨v, (List.getElem?_eq_some_iff.1 hv).1, i, hi, by rw [plAt_of hv]⟩
theorem idx_lt {k i : Nat} (hk : 1 ≤ k ∧ k ≤ 3) (hi : i < k * k) : i % k < k ∧ i / k < k := ⟨Nat.mod_lt _ (by omega), Nat.div_lt_of_lt_mul hi⟩
theorem idx_inj {k i j : Nat} (h1 : i % k = j % k) (h2 : i / k = j / k) : i = j := by
  have e1 := Nat.div_add_mod i k
  have e2 := Nat.div_add_mod j k
  rw [← e1, ← e2, h1, h2]
/-- points of different cells are apart -/
theorem cells_apart {k : Nat} (hk : 1 ≤ k ∧ k ≤ 3) {s t : Pl} {i j : Nat} (hi : i < k * k) (hj : j < k * k)
    (h : (k : Int) * s.x + ((i % k : Nat) : Int) = (k : Int) * t.x + ((j % k : Nat) : Int) ∧ (k : Int) * s.y + ((i / k : Nat) : Int) = (k : Int) * t.y + ((j / k : Nat) : Int)) : (s.x = t.x ∧ s.y = t.y) ∧ i = j := by
  obtain ⟨a1, a2⟩ := cell_inj hk (idx_lt hk hi).1 (idx_lt hk hj).1 h.1
  obtain ⟨b1, b2⟩ := cell_inj hk (idx_lt hk hi).2 (idx_lt hk hj).2 h.2
  exact ⟨⟨a1, b1⟩, idx_inj a2 b2⟩
theorem upT_apart {k : Nat} (hk : 1 ≤ k ∧ k ≤ 3) {xs : List Pl} (h : xs.Pairwise apart) : (upT k xs).Pairwise apart := by
  unfold upT upN
  rw [List.pairwise_flatMap]
  refine ⟨fun v _ => ?_, ?_⟩
  · unfold cellT
    rw [List.pairwise_map]
    refine List.Pairwise.imp_of_mem ?_ (List.pairwise_lt_range (n := k * k))
    intro i j hi hj hlt hh
    have := (cells_apart hk (s := plAt xs v) (t := plAt xs v) (List.mem_range.1 hi) (List.mem_range.1 hj) hh).2
    omega
  · refine List.Pairwise.imp_of_mem ?_ (List.pairwise_lt_range (n := xs.length))
    intro u v hu hv hlt a ha b hb hh
    obtain ⟨i, hi, rfl⟩ := List.mem_map.1 ha
    obtain ⟨j, hj, rfl⟩ := List.mem_map.1 hb
    have hu' := List.mem_range.1 hu
    have hv' := List.mem_range.1 hv
    have e1 := (cells_apart hk (s := plAt xs u) (t := plAt xs v) (List.mem_range.1 hi) (List.mem_range.1 hj) hh).1
    rw [plAt_of (List.getElem?_eq_getElem hu'), plAt_of (List.getElem?_eq_getElem hv')] at e1
    exact List.pairwise_iff_getElem.1 h u v hu' hv' hlt e1
theorem form_apart {xs : List Pl} (h : hasFormB xs = true) : xs.Pairwise apart := SortPl.apart (sortPl_valid (form_valid h))
theorem form_of_sort {L : List Pl} (h : SortPl L) (hp : ∀ e ∈ L, ((-60 ≤ e.x ∧ e.x ≤ 60) ∧ (-60 ≤ e.y ∧ e.y ≤ 60)) ∧ 0 ≤ e.t ∧ e.t ≤ 159) (h5 : L.length ≤ 500) : hasFormB L = true := by
  refine hasFormB_ok h5 fun j hj => ?_
  obtain ⟨e, he⟩ : ∃ e, L[j]? = some e := ⟨_, List.getElem?_eq_getElem hj⟩
  have hm := hp e (List.mem_of_getElem? he)
  have hv : validPt e.x e.y = true := by simp only [validPt, Bool.and_eq_true, inB_true]; exact hm.1
  have ht : inB e.t 0 159 = true := inB_true.2 hm.2
  cases j with
  | zero =>
    unfold okPl
    rw [he]
    simp only [hv, ht, Bool.and_self]
  | succ j =>
    obtain ⟨d, hd⟩ : ∃ d, L[j]? = some d := ⟨_, List.getElem?_eq_getElem (by omega)⟩
    have hl : lessPt d.x d.y e.x e.y = true := by
      obtain ⟨h1, e1⟩ := List.getElem?_eq_some_iff.1 hd
      obtain ⟨h2, e2⟩ := List.getElem?_eq_some_iff.1 he
      have := List.pairwise_iff_getElem.1 h j (j + 1) h1 h2 (Nat.lt_succ_self j)
      rw [e1, e2] at this
      exact this
    rw [okPl_eqS he hd, hv, ht, hl]
    rfl
def bigP (k : Nat) (ps : List Pt) : List Pl := sortPl (upT k (asmP ps))
/-- what is known of a drawn shape and of the number it is scaled by -/
structure S3 (ps : List Pt) (k : Nat) : Prop where
  s : Sm ps 9
  k : 1 ≤ k ∧ k ≤ 3
  n : ps.length ≤ 10
section
variable {ps : List Pt} {k : Nat}
theorem kk9 (h3 : S3 ps k) : k * k ≤ 9 := by rcases k123 h3.k with rfl | rfl | rfl <;> decide
theorem up_apart (h3 : S3 ps k) : (upT k (asmP ps)).Pairwise apart := upT_apart h3.k (form_apart (asmP_form h3.s (by omega) (by have := h3.n; omega)))
theorem big_len (h3 : S3 ps k) : (bigP k ps).length = ps.length * (k * k) := by
  unfold bigP upT
  rw [sortPl_len, upN_len]
  unfold asmP
  rw [asmN_len]
theorem big_mem (h3 : S3 ps k) {e : Pl} : e ∈ bigP k ps ↔ ∃ (v : Nat) (p : Pt) (i : Nat), ps[v]? = some p ∧ i < k * k ∧ e = ⟨(k : Int) * p.x + ((i % k : Nat) : Int), (k : Int) * p.y + ((i / k : Nat) : Int), (v : Int) * ((k * k : Nat) : Int) + (i : Int)⟩ := by
  unfold bigP
  rw [sortPl_mem, upT_mem]
  constructor
  · rintro ⟨t, ht, i, hi, rfl⟩
    obtain ⟨v, hv⟩ := List.getElem?_of_mem ht
    obtain ⟨p, hp, rfl⟩ := asmP_at hv
    exact ⟨v, p, i, hp, hi, rfl⟩
  · rintro ⟨v, p, i, hp, hi, rfl⟩
    exact ⟨_, List.mem_of_getElem? (asmP_get hp), i, hi, rfl⟩
theorem big_form (h3 : S3 ps k) : hasFormB (bigP k ps) = true := by
  have h9 := kk9 h3
  have hn := h3.n
  refine form_of_sort (sortPl_strict (up_apart h3)) (fun e he => ?_) ?_
  · obtain ⟨v, p, i, hp, hi, rfl⟩ := (big_mem h3).1 he
    have hr := h3.s.rng p (List.mem_of_getElem? hp)
    have hv := (List.getElem?_eq_some_iff.1 hp).1
    have c1 := cell_rng h3.k (idx_lt h3.k hi).1 hr.1
    have c2 := cell_rng h3.k (idx_lt h3.k hi).2 hr.2
    have hvk : v * (k * k) ≤ 9 * 9 := Nat.mul_le_mul (by omega) h9
    have e1 : (v : Int) * ((k * k : Nat) : Int) = ((v * (k * k) : Nat) : Int) := (Int.natCast_mul _ _).symm
    refine ⟨⟨⟨by simp only; omega, by simp only; omega⟩, by simp only; omega, by simp only; omega⟩, ?_, ?_⟩ <;> simp only <;> rw [e1] <;> omega
  · rw [big_len h3]
    have : ps.length * (k * k) ≤ 10 * 9 := Nat.mul_le_mul h3.n h9
    omega
/-- the scaled assembly stands at the scaled shape's points -/
theorem big_points (h3 : S3 ps k) : (bigP k ps).map plPt = scS k ps := by
  have hk1 := h3.k
  refine SortS.ext (form_shp (big_form h3)).sortS (scS_sorted k ps) fun q => ?_
  rw [List.mem_map, scS_mem]
  constructor
  · rintro ⟨e, he, rfl⟩
    obtain ⟨v, p, i, hp, hi, rfl⟩ := (big_mem h3).1 he
    exact ⟨p, List.mem_of_getElem? hp, i % k, i / k, (idx_lt h3.k hi).1, (idx_lt h3.k hi).2, rfl⟩
  · rintro ⟨p, hp, i, j, hi, hj, rfl⟩
    obtain ⟨v, hv⟩ := List.getElem?_of_mem hp
    have hm : (k * j + i) % k = i := by rw [Nat.mul_add_mod, Nat.mod_eq_of_lt hi]
    have hd : (k * j + i) / k = j := by rw [Nat.mul_add_div (by omega), Nat.div_eq_of_lt hi]; omega
    have hlt : k * j + i < k * k := by
      have : k * j + k ≤ k * k := by rw [← Nat.mul_succ]; exact Nat.mul_le_mul_left _ hj
      omega
    refine ⟨_, (big_mem h3).2 ⟨v, p, k * j + i, hv, hlt, rfl⟩, ?_⟩
    unfold plPt
    simp only [hm, hd]
theorem scS_len (h3 : S3 ps k) : (scS k ps).length = ps.length * (k * k) := by
  rw [← big_points h3, List.length_map, big_len h3]
theorem scS_rng (h3 : S3 ps k) : ∀ q ∈ scS k ps, (-29 ≤ q.x ∧ q.x ≤ 29) ∧ (-29 ≤ q.y ∧ q.y ≤ 29) := fun q hq => by
  obtain ⟨p, hp, i, j, hi, hj, rfl⟩ := scS_mem.1 hq
  have hr := h3.s.rng p hp
  have c1 := cell_rng h3.k hi hr.1
  have c2 := cell_rng h3.k hj hr.2
  simp only
  omega
theorem scS_shape (h3 : S3 ps k) (h1 : 1 ≤ ps.length) : shapeB (scS k ps) = true := by
  have h9 := kk9 h3
  have hl := scS_len h3
  have h2 : ps.length * (k * k) ≤ 10 * 9 := Nat.mul_le_mul h3.n h9
  have h6 : 1 * 1 ≤ ps.length * (k * k) := Nat.mul_le_mul h1 (Nat.mul_le_mul h3.k.1 h3.k.1)
  exact shapeB_of (scS_sorted k ps) (fun q hq => by have := scS_rng h3 q hq; omega) (by omega) (by omega)
theorem big_at (h3 : S3 ps k) {v i : Nat} {p : Pt} (hp : ps[v]? = some p) (hi : i < k * k) : vB (bigP k ps) k p i = (v : Int) * ((k * k : Nat) : Int) + (i : Int) := by
  obtain ⟨j, hj⟩ := List.getElem?_of_mem ((big_mem h3).2 ⟨v, p, i, hp, hi, rfl⟩)
  have hpl := IsPlace.eq (form_valid (big_form h3)) (place_found hj rfl rfl)
  unfold vB
  exact atI_some hpl.symm hj
theorem big_comp (h3 : S3 ps k) {v : Nat} {p : Pt} (hp : ps[v]? = some p) : compI (bigP k ps) k p = (v : Int) := by
  have hk1 := h3.k
  have hK : 0 < k * k := Nat.mul_pos (by omega) (by omega)
  obtain ⟨K, hKe⟩ : ∃ K, k * k = K := ⟨_, rfl⟩
  have hat : ∀ i, i < K → vB (bigP k ps) k p i = (v : Int) * (K : Int) + (i : Int) := fun i hi => by rw [← hKe] at hi ⊢; exact big_at h3 hp hi
  have hdm : ∀ i : Nat, i < K → ((v : Int) * (K : Int) + (i : Int)) / (K : Int) = (v : Int) ∧ ((v : Int) * (K : Int) + (i : Int)) % (K : Int) = (i : Int) := fun i hi => by
    have e1 : (v : Int) * (K : Int) + (i : Int) = ((K * v + i : Nat) : Int) := by rw [Int.natCast_add, Int.natCast_mul, Int.mul_comm]
    rw [e1]
    constructor
    · have : (K * v + i) / K = v := by rw [Nat.mul_add_div (by omega), Nat.div_eq_of_lt hi]; omega
      rw [← Int.natCast_ediv, this]
    · have : (K * v + i) % K = i := by rw [Nat.mul_add_mod, Nat.mod_eq_of_lt hi]
      rw [← Int.natCast_emod, this]
  rw [compI_good]
  · rw [hKe, hat (K - 1) (by omega), (hdm (K - 1) (by omega)).1]
  · intro i hi
    rw [hKe] at hi ⊢
    unfold okC
    refine decide_eq_true ⟨?_, ?_, ?_⟩
    · rw [hat i hi]
      have : (v : Int) * (K : Int) = ((v * K : Nat) : Int) := (Int.natCast_mul _ _).symm
      rw [this]; omega
    · rw [hat i hi]; exact (hdm i hi).2
    · rcases Nat.eq_zero_or_pos i with h | h
      · exact .inl h
      · exact .inr (by rw [hat i hi, hat (i - 1) (by omega), (hdm i hi).1, (hdm (i - 1) (by omega)).1])
theorem big_blocks (h3 : S3 ps k) : blocksP (k : Int) (bigP k ps) = ps := by
  have hk1 := h3.k
  unfold blocksP
  refine SortS.ext (putAll_sorted _ _ List.Pairwise.nil) h3.s.srt fun p => ?_
  rw [putAll_mem, List.mem_map]
  constructor
  · rintro (hp | ⟨e, he, rfl⟩)
    · cases hp
    · obtain ⟨v, p, i, hp, hi, rfl⟩ := (big_mem h3).1 he
      unfold blkP
      simp only [cell_div h3.k (idx_lt h3.k hi).1, cell_div h3.k (idx_lt h3.k hi).2]
      exact List.mem_of_getElem? hp
  · intro hp
    obtain ⟨v, hv⟩ := List.getElem?_of_mem hp
    refine .inr ⟨_, (big_mem h3).2 ⟨v, p, 0, hv, Nat.mul_pos (by omega) (by omega), rfl⟩, ?_⟩
    unfold blkP
    simp only [Nat.zero_mod, Nat.zero_div, cell_div h3.k (show 0 < k by omega)]
/-- the blocks are read as the shape -/
theorem big_decode (h3 : S3 ps k) : decR (bigP k ps) (k : Int) = (asmP ps, 0) := by
  have hk1 := h3.k
  have hb : blkCode (bigP k ps) (k : Int) = 0 := by
    unfold blkCode
    rw [if_pos (big_form h3), if_pos (inB_true.2 (by omega))]
  unfold decR
  rw [if_pos hb]
  congr 1
  show decB (bigP k ps) ((k : Int).toNat) = asmP ps
  rw [Int.toNat_natCast]
  unfold decB decN
  rw [big_blocks h3, List.take_length]
  have hall : ps.filter (delC (bigP k ps) k) = ps := List.filter_eq_self.2 fun p hp => by
    obtain ⟨v, hv⟩ := List.getElem?_of_mem hp
    unfold delC
    rw [big_comp h3 hv]
    exact decide_eq_true (by omega)
  rw [hall]
  apply List.ext_getElem?
  intro v
  rw [List.getElem?_map]
  by_cases hv : v < ps.length
  · have hp := List.getElem?_eq_getElem hv
    rw [hp, asmP_get hp, Option.map_some, big_comp h3 hp]
  · rw [List.getElem?_eq_none (by omega), List.getElem?_eq_none (by unfold asmP; rw [asmN_len]; omega)]
    rfl
end
end Go.Proofs.Ytpnahobgmemdjaa
/- Walks: the parts of an assembly, of both. -/

namespace Go.Proofs.Ytpnahobgmemdjaa
open Go.RowKit Go.Shelf
attribute [local go_sem] BelowBy.cell BelowBy.cell_drew stillUpon givesUpon

def partsR (xs : List Pl) : List (List Pl) := if hasFormB xs then partsQ xs else []
theorem partsQ_len (xs : List Pl) : (partsQ xs).length = (partsP (xs.map plPt)).length := by unfold partsQ partsP; rw [List.length_map, List.length_map]
/-- a row of assemblies that the call has made -/
def AsmsR (w : World) (P : List (List Pl)) (e : Ending) (w' : World) : Prop :=
  ∃ A c us, e = .returned (.slice A P.length c) ∧ Own2 w' w.heap.size 26 38 3 (.slice A P.length c) us (plRows P) ∧ Below w.heap.size w w'
theorem infoAsmQ : (Try.prog.info? 26).map (fun i => (i.zero, i.size, i.bytes)) = some (some (.agg #[.slice none 0 0]), 1, 24) := by kernel_rfl
theorem partsR_small (xs : List Pl) : (partsR xs).length ≤ 500 ∧ ∀ l ∈ partsR xs, l.length ≤ 500 := by
  unfold partsR
  split
  · rename_i h
    have hl := form_len h
    refine ⟨?_, fun l hm => ?_⟩
    · rw [partsQ_len]
      have := partsP_len (xs.map plPt)
      rw [List.length_map] at this
      omega
    · unfold partsQ at hm
      rw [List.mem_map] at hm
      obtain ⟨q, hq, rfl⟩ := hm
      obtain ⟨i, hi⟩ := List.mem_iff_getElem?.1 hq
      have := partsN_each hi
      rw [List.length_map] at this ⊢
      omega
  · exact ⟨by simp, fun l hm => by simp at hm⟩
set_option maxRecDepth 100000 in
set_option maxHeartbeats 4000000 in
theorem PartsOf_any (A : Option Addr) (n c : Nat) (xs : List Pl) (w : World) (h : RdSl 3 RPl w A n xs) (hn : n ≤ 1073741824) :
    Calls Try.prog 7 #[.agg #[.slice A n c]] w (AsmsR w (partsR xs)) := by
  obtain ⟨i1, hi', hz0', hz1', hz2'⟩ := info_parts infoAsmQ
  have hl := Lib.hid h.len
  have hH := Lib.hid h
  clear h
  cases hf : hasFormB xs
  · have hR := Lib.hid (show partsR xs = [] by unfold partsR; rw [hf]; rfl)
    have hfH := Lib.hid hf
    clear hf
    go_enter Try.func7, Try.ntmps7
    go_wp2_with (go_at_call 30; refine (hasForm_any _ _ _ xs _ (hH.out.below RPl.stable (by exact bel_)) hn).mono ?_; rw [hfH.out]; rintro e w1 ⟨rfl, hb1⟩; have hb1H := Lib.hid hb1; clear hb1)
    go_ret
    rw [hR.out]
    exact ⟨none, 0, [], rfl, Own2.nil _ _ _ _ _, (bl_al (bl_refl w) _).trans (hb1H.out.mono (by simp))⟩
  · have hR := Lib.hid (show partsR xs = partsQ xs by unfold partsR; rw [hf]; rfl)
    have hS := form_shp hf
    have hn5 := form_len hf
    rw [hl.out] at hn5
    have hfH := Lib.hid hf
    have hSH := Lib.hid hS
    have hpl : Hid ((xs.map plPt).length = n) := Lib.hid (by rw [List.length_map]; exact hl.out)
    have hPV := Lib.hid (partsV_parts hS)
    have hQT := Lib.hid (partsQ_tile hf)
    have hlen := partsP_len (xs.map plPt)
    rw [hpl.out] at hlen hPV
    have hplen := partsQ_len xs
    obtain ⟨PS, hPS⟩ : ∃ PS, partsP (xs.map plPt) = PS := ⟨_, rfl⟩
    rw [hPS] at hPV hQT hlen hplen
    obtain ⟨cN, hcN⟩ : ∃ cN, PS.length = cN := ⟨_, rfl⟩
    rw [hcN] at hlen hplen
    have hplenH := Lib.hid hplen
    have hcNH := Lib.hid hcN
    have hPSH := Lib.hid hPS
    clear hf hS hPS hcN hplen
    go_enter Try.func7, Try.ntmps7
    go_wp2_with (first
      | (go_at_call 30; refine (hasForm_any _ _ _ xs _ (hH.out.below RPl.stable (by exact bel_)) hn).mono ?_; rw [hfH.out]; rintro e w1 ⟨rfl, hb1⟩; have a0 := (hb1.cell (p := ⟨w.heap.size, 0, none⟩) (by simp)).trans (show _ = some (Value.slice A n c) by go_simp); have hb1H := Lib.hid ((bl_al (bl_refl w) (Obj.cells #[.slice A n c] 26)).trans (hb1.mono (by simp))); have hs1 := hb1.size; simp at hs1; clear hb1)
      | (go_at_call 32; refine (pointsQ_any (hH.out.below RPl.stable hb1H.out) (by omega)).mono ?_; rintro e w2 ⟨A2, c2, rfl, hO2, hb2⟩; have a1 := (hb2.cell (p := ⟨w.heap.size, 0, none⟩) (by simp; omega)).trans a0; have hs2 := hb2.size; have hO2H := Lib.hid (rdPts hO2 hpl.out.symm); have hb2H := Lib.hid (hb1H.out.trans (hb2.mono hb1H.out.size)); clear hO2 hb2)
      | (go_at_call 31; refine (connected_any _ n _ (xs.map plPt) _ hO2H.out hSH.out (by omega)).mono ?_; rintro e w3 ⟨v3, us3, rfl, hO3, hb3⟩; rw [hPV.out] at hO3; have hu3 : us3.length = cN := (by rw [hO3.len, List.length_map, hcNH.out]); have hu3H := Lib.hid hu3; obtain ⟨A3, c3, rfl⟩ := hO3.form hu3; have a2 := (hb3.cell (p := ⟨w.heap.size, 0, none⟩) (by simp; omega)).trans a1; have hs3 := hb3.size; have hO3H := Lib.hid hO3; have hb3H := Lib.hid (hb2H.out.trans (hb3.mono hb2H.out.size)); clear hO3 hb3 hu3))
    have hq := hb3H.out.size
    clear a0 a1
    go_loopg [13, 3] cN (fun g i v wy => ∃ (t : Nat) (us : List Value), t + g = cN ∧ i = .int .i64 (t : Int) ∧ Hid (Own2 wy w3.heap.size 26 38 3 v us (plRows ((partsQ xs).take t))) ∧ Hid (Below w3.heap.size w3 wy))
    case atStart => exact ⟨0, [], by omega, rfl, Lib.hid (Own2.nil _ _ _ _ _), Lib.hid (bl_refl _)⟩
    case round =>
      obtain ⟨t, us, ht, rfl, hO, hby⟩ := hrel
      have hszy := hby.out.size
      have hul : us.length = t := by
        rw [hO.out.len]
        simp only [plRows, List.length_map, List.length_take]
        rw [hplenH.out]
        omega
      have hulH := Lib.hid hul
      obtain ⟨A4, c4, rfl⟩ := hO.out.form hul
      clear hul
      have a3 := (hby.out.cell (p := ⟨w.heap.size, 0, none⟩) (by simp; omega)).trans a2
      have hwl : w.heap.size < wr.heap.size := by omega
      by_cases htc : t < cN
      · obtain ⟨l, hl'⟩ : ∃ l, PS[t]? = some l := ⟨_, List.getElem?_eq_getElem (by rw [hcNH.out]; exact htc)⟩
        have hsn := Lib.hid (show plRows ((partsQ xs).take (t + 1)) = plRows ((partsQ xs).take t) ++ [plCells (l.map (tileOf xs))] by
          unfold plRows
          rw [hQT.out, List.take_add_one, List.getElem?_map, hl']
          simp)
        have hll : l.length ≤ 500 := by
          have hm := (partsR_small xs).2 (l.map (tileOf xs)) (by rw [hR.out, hQT.out]; exact List.mem_map_of_mem (List.mem_of_getElem? hl'))
          rw [List.length_map] at hm
          exact hm
        obtain ⟨g1, cap1, hv⟩ := hO3H.out.formPos hu3H.out (by omega)
        injection hv with hv1 hv2 hv3
        subst hv1 hv3
        clear hv2
        obtain ⟨u1, hu1⟩ : ∃ u, us3[t]? = some u := ⟨_, List.getElem?_eq_getElem (by rw [hu3H.out]; exact htc)⟩
        obtain ⟨m, r', hr', hown0⟩ := hO3H.out.get hu1
        rw [List.getElem?_map, hl'] at hr'
        simp only [Option.map_some, Option.some.injEq] at hr'
        subst hr'
        obtain ⟨Au, capu, rfl⟩ := ownsRow_form hown0
        have hm := hown0.1
        rw [ptCells_len] at hm
        obtain rfl : l.length = m := by omega
        have k1 := hO3H.out.cellAt hu3H.out hu1
        have hg1 := k1.2.2
        have k2 := (hby.out.cell (p := ⟨g1, t, none⟩) hg1).trans k1.1
        have hg2 : g1 < wr.heap.size := by omega
        have hrd := Lib.hid ((rdPts hown0 rfl).below RPt.stable hby.out)
        have hAr := Lib.hid ((hH.out.below RPl.stable hb3H.out).below RPl.stable hby.out)
        have hof3 := Lib.hid (fun (g : Nat) (h : Value.ownBlock (.slice A4 t c4) = some g) => (hO.out.lt g h).2)
        have hou3 := Lib.hid (fun (k : Nat) (u : Value) (g : Nat) (hk : us[k]? = some u) (h : u.ownBlock = some g) => (hO.out.ltIn hk g h).2)
        clear hl' hu1 hown0 k1 hm
        go_wp2_with (first
          | (go_at_call 33; refine (part_any (hAr.out) hfH.out hrd.out (by omega)).mono ?_; rintro e w5 ⟨A5, c5, rfl, hO5, hb5⟩; have hs5 := hb5.size; have hO5H := Lib.hid hO5; have hb5H := Lib.hid hb5; have hO6 := Lib.hid (hO.out.below hb5); clear hO5 hb5)
          | (at_builtin; refine wpList_append_own_at _ rfl _ _ 28 rfl w3.heap.size 26 i1 (.agg #[.slice none 0 0]) 1 24 Try.underlying28 hi' hz0' hz1' hz2' rfl (by decide) (.slice A4 t c4) t us rfl ((hO6.out.outerN hulH.out).alloc _) ⟨w5.heap.size, 0, none⟩ 1 1 [.slice A5 l.length c5] rfl rfl (cell_one_new _ _ _) (fun x hx => by simp at hx; subst hx; rfl) (by unfold maxLen; omega) (by omega) (by simp; omega) ?_; intro v7 w7 hown7 hgrow7 _ hat7; have hown7H := Lib.hid hown7; have hgrow7H := Lib.hid hgrow7; have hat7H := Lib.hid hat7; clear hown7 hgrow7 hat7))
        go_roundg (cN - (t + 1))
        case measure => omega
        case rel =>
          refine ⟨t + 1, us ++ [.slice A5 l.length c5], by omega, by go_num, Lib.hid ?_, Lib.hid ?_⟩
          · rw [hsn.out]
            exact (hO6.out.alloc (Obj.cells #[.slice A5 l.length c5] 26)).push hulH.out ((ownsRow_baseQ hO5H.out (by omega)).alloc _) (fun g e => ⟨fun e' => by have := hof3.out _ e'; have := (hO5H.out.lt g e).1; omega, fun i u hu e' => by have := hou3.out i u _ hu e'; have := (hO5H.out.lt g e).1; omega⟩) hown7H.out hgrow7H.out hat7H.out
          · exact (hby.out.trans (hb5H.out.mono hszy)).trans (below_app (by omega) (fun g e => (hO.out.lt g e).1) hgrow7H.out)
      · obtain rfl : t = cN := by omega
        go_wp2
        go_ret
        rw [hR.out]
        refine ⟨A4, c4, us, by rw [hplenH.out]; rfl, ?_, hb3H.out.trans (hby.out.mono hq)⟩
        have h1 := hO.out
        rw [← hplenH.out, List.take_length] at h1
        exact h1.rebase hq
end Go.Proofs.Ytpnahobgmemdjaa
