import Derived.Test.YtkppijcjmhkkkaaGAV
import Derived.Test.YtkppijcjmhkkkaaGAX
import Derived.Test.YtkppijcjmhkkkaaGAO
import Derived.Test.YtkppijcjmhkkkaaGAU
import Derived.Test.YtkppijcjmhkkkaaGAP
set_option linter.unusedSimpArgs false
set_option linter.unusedVariables false
/- Plain: a small shape scaled, as points and as tiles; read back, and moved home. -/



namespace Go.Proofs.Ytkppijcjmhkkkaa
open Go.RowKit
/-- a small shape: points in order, near the origin -/
structure Sm (ps : List Pt) (B : Nat) : Prop where
  srt : SortS ps
  rng : ∀ p ∈ ps, (-(B : Int) ≤ p.x ∧ p.x ≤ B) ∧ (-(B : Int) ≤ p.y ∧ p.y ≤ B)
theorem shapeB_of {L : List Pt} (h : SortS L) (hp : ∀ p ∈ L, (-60 ≤ p.x ∧ p.x ≤ 60) ∧ (-60 ≤ p.y ∧ p.y ≤ 60)) (h1 : 1 ≤ L.length) (h5 : L.length ≤ 500) : shapeB L = true := by
  rw [shapeB_ok, decide_eq_true ⟨h1, h5⟩]
  intro j hj
  obtain ⟨e, he⟩ : ∃ e, L[j]? = some e := ⟨_, List.getElem?_eq_getElem hj⟩
  have hv : validPt e.x e.y = true := by
    have := hp e (List.mem_of_getElem? he)
    simp only [validPt, Bool.and_eq_true, inB_true]; exact this
  cases j with
  | zero => rw [okPt_eq0 he]; exact hv
  | succ j =>
    obtain ⟨d, hd⟩ : ∃ d, L[j]? = some d := ⟨_, List.getElem?_eq_getElem (by omega)⟩
    have hl : lessPt d.x d.y e.x e.y = true := h.get (Nat.lt_succ_self j) hd he
    rw [okPt_eqS he hd, hv, hl]
    rfl
theorem Sm.shape {ps : List Pt} {B : Nat} (h : Sm ps B) (hB : B ≤ 60) (h1 : 1 ≤ ps.length) (h5 : ps.length ≤ 500) : shapeB ps = true :=
  shapeB_of h.srt (fun p hp => by have := h.rng p hp; omega) h1 h5
/-- tiles at the points, by their places -/
def asmN (ps : List Pt) (j : Nat) : List Pl := (List.range j).map fun i => ⟨(ptAt ps i).x, (ptAt ps i).y, (i : Int)⟩
def asmP (ps : List Pt) : List Pl := asmN ps ps.length
theorem asmN_succ {ps : List Pt} {j : Nat} {e : Pt} (h : ps[j]? = some e) : asmN ps (j + 1) = asmN ps j ++ [⟨e.x, e.y, (j : Int)⟩] := by
  unfold asmN; rw [List.range_succ, List.map_append, List.map_cons, List.map_nil, ptAt_of h]
theorem asmN_len (ps : List Pt) (j : Nat) : (asmN ps j).length = j := by simp [asmN]
theorem asmP_get {ps : List Pt} {i : Nat} {p : Pt} (h : ps[i]? = some p) : (asmP ps)[i]? = some ⟨p.x, p.y, (i : Int)⟩ := by
  have hi := (List.getElem?_eq_some_iff.1 h).1
  unfold asmP asmN
  rw [List.getElem?_map, List.getElem?_range hi, Option.map_some, ptAt_of h]
theorem asmP_at {ps : List Pt} {i : Nat} {e : Pl} (h : (asmP ps)[i]? = some e) : ∃ p, ps[i]? = some p ∧ e = ⟨p.x, p.y, (i : Int)⟩ := by
  have hi := (List.getElem?_eq_some_iff.1 h).1
  unfold asmP at hi
  rw [asmN_len] at hi
  obtain ⟨p, hp⟩ : ∃ p, ps[i]? = some p := ⟨_, List.getElem?_eq_getElem hi⟩
  rw [asmP_get hp] at h
  exact ⟨p, hp, (Option.some.inj h).symm⟩
theorem asmP_form {ps : List Pt} {B : Nat} (h : Sm ps B) (hB : B ≤ 60) (h5 : ps.length ≤ 160) : hasFormB (asmP ps) = true := by
  have hl : (asmP ps).length = ps.length := asmN_len _ _
  refine hasFormB_ok (by omega) fun j hj => ?_
  obtain ⟨e, he⟩ : ∃ e, (asmP ps)[j]? = some e := ⟨_, List.getElem?_eq_getElem hj⟩
  obtain ⟨p, hp, rfl⟩ := asmP_at he
  have hv : validPt p.x p.y = true := by
    have := h.rng p (List.mem_of_getElem? hp)
    simp only [validPt, Bool.and_eq_true, inB_true]; omega
  have ht : inB (j : Int) 0 159 = true := inB_true.2 (by omega)
  cases j with
  | zero =>
    unfold okPl
    rw [he]
    simp only [hv, ht, Bool.and_self]
  | succ j =>
    obtain ⟨d, hd⟩ : ∃ d, (asmP ps)[j]? = some d := ⟨_, List.getElem?_eq_getElem (by omega)⟩
    obtain ⟨q, hq, rfl⟩ := asmP_at hd
    have hl : lessPt q.x q.y p.x p.y = true := h.srt.get (Nat.lt_succ_self j) hq hp
    rw [okPl_eqS he hd]
    simp only
    rw [hv, ht, hl]
    rfl
/-- the points of a scaled shape, as the program makes them -/
def colP (k : Nat) (p : Pt) (i : Nat) (m : Nat) : List Pt := (List.range m).map fun (j : Nat) => ⟨(k : Int) * p.x + (i : Int), (k : Int) * p.y + (j : Int)⟩
def blkS (k : Nat) (p : Pt) (m : Nat) : List Pt := (List.range m).flatMap fun i => colP k p i k
def scalN (k : Nat) (ps : List Pt) (j : Nat) : List Pt := (List.range j).flatMap fun v => blkS k (ptAt ps v) k
def scalP (k : Nat) (ps : List Pt) : List Pt := scalN k ps ps.length
def scS (k : Nat) (ps : List Pt) : List Pt := putAll [] (scalP k ps)
theorem flatMap_succ {α : Type} (f : Nat → List α) (j : Nat) : (List.range (j + 1)).flatMap f = (List.range j).flatMap f ++ f j := by
  rw [List.range_succ, List.flatMap_append]; simp
theorem colP_len (k : Nat) (p : Pt) (i m : Nat) : (colP k p i m).length = m := by simp [colP]
theorem flatMap_len {α : Type} (f : Nat → List α) (c : Nat) (h : ∀ i, (f i).length = c) : ∀ j, ((List.range j).flatMap f).length = j * c
  | 0 => by simp
  | j + 1 => by rw [flatMap_succ, List.length_append, flatMap_len f c h j, h, Nat.succ_mul]
theorem blkS_len (k : Nat) (p : Pt) (m : Nat) : (blkS k p m).length = m * k := flatMap_len _ _ (fun i => colP_len k p i k) m
theorem scalN_len (k : Nat) (ps : List Pt) (j : Nat) : (scalN k ps j).length = j * (k * k) := flatMap_len _ _ (fun v => blkS_len k _ k) j
theorem scalP_mem {k : Nat} {ps : List Pt} {q : Pt} : q ∈ scalP k ps ↔ ∃ p ∈ ps, ∃ i j : Nat, i < k ∧ j < k ∧ q = ⟨(k : Int) * p.x + (i : Int), (k : Int) * p.y + (j : Int)⟩ := by
  unfold scalP scalN blkS colP
  simp only [List.mem_flatMap, List.mem_map, List.mem_range]
  constructor
  · rintro ⟨v, hv, i, hi, j, hj, rfl⟩
    have h := List.getElem?_eq_getElem hv
    exact ⟨ps[v], List.getElem_mem hv, i, j, hi, hj, by rw [ptAt_of h]⟩
  · rintro ⟨p, hp, i, j, hi, hj, rfl⟩
    obtain ⟨v, hv⟩ := List.getElem?_of_mem hp
    exact ⟨v, (List.getElem?_eq_some_iff.1 hv).1, i, hi, j, hj, by rw [ptAt_of hv]⟩
theorem scS_sorted (k : Nat) (ps : List Pt) : SortS (scS k ps) := putAll_sorted _ _ List.Pairwise.nil
theorem scS_mem {k : Nat} {ps : List Pt} {q : Pt} : q ∈ scS k ps ↔ ∃ p ∈ ps, ∃ i j : Nat, i < k ∧ j < k ∧ q = ⟨(k : Int) * p.x + (i : Int), (k : Int) * p.y + (j : Int)⟩ := by
  unfold scS; rw [putAll_mem, scalP_mem]; simp
theorem k123 {k : Nat} (h : 1 ≤ k ∧ k ≤ 3) : k = 1 ∨ k = 2 ∨ k = 3 := by omega
theorem cell_inj {k : Nat} (hk : 1 ≤ k ∧ k ≤ 3) {x y : Int} {a b : Nat} (ha : a < k) (hb : b < k) (h : (k : Int) * x + (a : Int) = (k : Int) * y + (b : Int)) : x = y ∧ a = b := by
  rcases k123 hk with rfl | rfl | rfl <;> omega
theorem cell_div {k : Nat} (hk : 1 ≤ k ∧ k ≤ 3) {x : Int} {a : Nat} (ha : a < k) : ((k : Int) * x + (a : Int)) / (k : Int) = x := by
  rcases k123 hk with rfl | rfl | rfl <;> omega
theorem cell_rng {k B : Nat} (hk : 1 ≤ k ∧ k ≤ 3) {x : Int} {a : Nat} (ha : a < k) (h : -(B : Int) ≤ x ∧ x ≤ B) : -((3 * B + 2 : Nat) : Int) ≤ (k : Int) * x + (a : Int) ∧ (k : Int) * x + (a : Int) ≤ ((3 * B + 2 : Nat) : Int) := by
  rcases k123 hk with rfl | rfl | rfl <;> omega
/-- a scaled shape is scaled back -/
theorem unscale {k B : Nat} (hk : 1 ≤ k ∧ k ≤ 3) {ps : List Pt} (h : Sm ps B) : putAll [] ((scS k ps).map fun q => ⟨q.x / (k : Int), q.y / (k : Int)⟩) = ps := by
  refine SortS.ext (putAll_sorted _ _ List.Pairwise.nil) h.srt fun p => ?_
  rw [putAll_mem, List.mem_map]
  constructor
  · rintro (hp | ⟨q, hq, rfl⟩)
    · cases hp
    · obtain ⟨p, hp, i, j, hi, hj, rfl⟩ := scS_mem.1 hq
      simp only [cell_div hk hi, cell_div hk hj]
      exact hp
  · intro hp
    refine .inr ⟨⟨(k : Int) * p.x + ((0 : Nat) : Int), (k : Int) * p.y + ((0 : Nat) : Int)⟩, scS_mem.2 ⟨p, hp, 0, 0, by omega, by omega, rfl⟩, ?_⟩
    simp only [cell_div hk (show 0 < k by omega)]
theorem SortS.nodup {L : List Pt} (h : SortS L) : L.Nodup := by
  refine List.Pairwise.imp (fun {a b} hab e => ?_) h
  subst e
  rw [ltP_iff] at hab
  omega
section
variable {k : Nat} (hk : 1 ≤ k ∧ k ≤ 3)
include hk
theorem scalP_nodup {ps : List Pt} (hS : SortS ps) : (scalP k ps).Nodup := by
  unfold scalP scalN
  rw [List.nodup_iff_pairwise_ne, List.pairwise_flatMap]
  refine ⟨fun v _ => ?_, ?_⟩
  · unfold blkS
    rw [List.pairwise_flatMap]
    refine ⟨fun i hi => ?_, ?_⟩
    · unfold colP
      rw [List.pairwise_map]
      refine List.Pairwise.imp ?_ (List.pairwise_lt_range (n := k))
      intro a b hlt e
      injection e with e1 e2
      omega
    · refine List.Pairwise.imp ?_ (List.pairwise_lt_range (n := k))
      intro a b hlt x hx y hy e
      unfold colP at hx hy
      obtain ⟨j, _, rfl⟩ := List.mem_map.1 hx
      obtain ⟨m, _, rfl⟩ := List.mem_map.1 hy
      injection e with e1 e2
      omega
  · refine List.Pairwise.imp_of_mem ?_ (List.pairwise_lt_range (n := ps.length))
    intro u v hu hv hlt x hx y hy e
    have hu' := List.mem_range.1 hu
    have hv' := List.mem_range.1 hv
    have hne := List.pairwise_iff_getElem.1 hS.nodup u v hu' hv' hlt
    unfold blkS colP at hx hy
    simp only [List.mem_flatMap, List.mem_map, List.mem_range] at hx hy
    obtain ⟨i, hi, j, hj, rfl⟩ := hx
    obtain ⟨a, ha, b, hb, rfl⟩ := hy
    injection e with e1 e2
    rw [ptAt_of (List.getElem?_eq_getElem hu'), ptAt_of (List.getElem?_eq_getElem hv')] at e1 e2
    apply hne
    have h1 := (cell_inj hk hi ha e1).1
    have h2 := (cell_inj hk hj hb e2).1
    cases hp : ps[u] with
    | mk x y =>
      cases hq : ps[v] with
      | mk x' y' =>
        rw [hp, hq] at h1 h2
        simp only at h1 h2
        rw [h1, h2]
theorem sc_perm {ps : List Pt} (hS : SortS ps) : (scS k ps).Perm (scalP k ps) := by
  rw [List.perm_ext_iff_of_nodup (scS_sorted k ps).nodup (scalP_nodup hk hS)]
  intro q
  rw [scS_mem, scalP_mem]
theorem sc_len {ps : List Pt} (hS : SortS ps) : (scS k ps).length = ps.length * (k * k) := by
  rw [(sc_perm hk hS).length_eq]
  unfold scalP
  exact scalN_len k ps _
end
/-- what is known of a drawn shape and of the number it is scaled by, for the points alone -/
structure S4 (ps : List Pt) (k : Nat) : Prop where
  s : Sm ps 15
  k : 1 ≤ k ∧ k ≤ 3
  n : ps.length ≤ 25
section
variable {ps : List Pt} {k : Nat}
theorem S4.kk (h : S4 ps k) : k * k ≤ 9 := by rcases k123 h.k with rfl | rfl | rfl <;> decide
theorem S4.len (h : S4 ps k) : (scS k ps).length = ps.length * (k * k) := sc_len h.k h.s.srt
theorem S4.rng (h : S4 ps k) : ∀ q ∈ scS k ps, (-47 ≤ q.x ∧ q.x ≤ 47) ∧ (-47 ≤ q.y ∧ q.y ≤ 47) := fun q hq => by
  obtain ⟨p, hp, i, j, hi, hj, rfl⟩ := scS_mem.1 hq
  have hr := h.s.rng p hp
  have c1 := cell_rng h.k hi hr.1
  have c2 := cell_rng h.k hj hr.2
  simp only
  omega
theorem S4.shape (h : S4 ps k) (h1 : 1 ≤ ps.length) : shapeB (scS k ps) = true := by
  have h9 := h.kk
  have hl := h.len
  have h2 : ps.length * (k * k) ≤ 25 * 9 := Nat.mul_le_mul h.n h9
  have h6 : 1 * 1 ≤ ps.length * (k * k) := Nat.mul_le_mul h1 (Nat.mul_le_mul h.k.1 h.k.1)
  exact shapeB_of (scS_sorted k ps) (fun q hq => by have := h.rng q hq; omega) (by omega) (by omega)
end
/-- the tiles of a scaled assembly, as the program makes them -/
def cellT (k : Nat) (t : Pl) (m : Nat) : List Pl := (List.range m).map fun i => ⟨(k : Int) * t.x + ((i % k : Nat) : Int), (k : Int) * t.y + ((i / k : Nat) : Int), t.t * ((k * k : Nat) : Int) + (i : Int)⟩
def upN (k : Nat) (xs : List Pl) (j : Nat) : List Pl := (List.range j).flatMap fun v => cellT k (plAt xs v) (k * k)
def upT (k : Nat) (xs : List Pl) : List Pl := upN k xs xs.length
theorem cellT_len (k : Nat) (t : Pl) (m : Nat) : (cellT k t m).length = m := by simp [cellT]
theorem cellT_succ (k : Nat) (t : Pl) (m : Nat) : cellT k t (m + 1) = cellT k t m ++ [⟨(k : Int) * t.x + ((m % k : Nat) : Int), (k : Int) * t.y + ((m / k : Nat) : Int), t.t * ((k * k : Nat) : Int) + (m : Int)⟩] := by simp [cellT, List.range_succ]
theorem upN_len (k : Nat) (xs : List Pl) (j : Nat) : (upN k xs j).length = j * (k * k) := flatMap_len _ _ (fun v => cellT_len k _ _) j
theorem upT_mem {k : Nat} {xs : List Pl} {e : Pl} : e ∈ upT k xs ↔ ∃ t ∈ xs, ∃ i : Nat, i < k * k ∧ e = ⟨(k : Int) * t.x + ((i % k : Nat) : Int), (k : Int) * t.y + ((i / k : Nat) : Int), t.t * ((k * k : Nat) : Int) + (i : Int)⟩ := by
  unfold upT upN cellT
  simp only [List.mem_flatMap, List.mem_map, List.mem_range]
  constructor
  · rintro ⟨v, hv, i, hi, rfl⟩
    have h := List.getElem?_eq_getElem hv
    exact ⟨xs[v], List.getElem_mem hv, i, hi, by rw [plAt_of h]⟩
  · rintro ⟨t, ht, i, hi, rfl⟩
    obtain ⟨v, hv⟩ := List.getElem?_of_mem ht
    exact ⟨v, (List.getElem?_eq_some_iff.1 hv).1, i, hi, by rw [plAt_of hv]⟩
theorem idx_lt {k i : Nat} (hk : 1 ≤ k ∧ k ≤ 3) (hi : i < k * k) : i % k < k ∧ i / k < k := ⟨Nat.mod_lt _ (by omega), Nat.div_lt_of_lt_mul hi⟩
theorem idx_inj {k i j : Nat} (h1 : i % k = j % k) (h2 : i / k = j / k) : i = j := by
  have e1 := Nat.div_add_mod i k
  have e2 := Nat.div_add_mod j k
  rw [← e1, ← e2, h1, h2]
/-- points of different cells are apart -/
theorem cells_apart {k : Nat} (hk : 1 ≤ k ∧ k ≤ 3) {s t : Pl} {i j : Nat} (hi : i < k * k) (hj : j < k * k)
    (h : (k : Int) * s.x + ((i % k : Nat) : Int) = (k : Int) * t.x + ((j % k : Nat) : Int) ∧ (k : Int) * s.y + ((i / k : Nat) : Int) = (k : Int) * t.y + ((j / k : Nat) : Int)) : (s.x = t.x ∧ s.y = t.y) ∧ i = j := by
  obtain ⟨a1, a2⟩ := cell_inj hk (idx_lt hk hi).1 (idx_lt hk hj).1 h.1
  obtain ⟨b1, b2⟩ := cell_inj hk (idx_lt hk hi).2 (idx_lt hk hj).2 h.2
  exact ⟨⟨a1, b1⟩, idx_inj a2 b2⟩
theorem upT_apart {k : Nat} (hk : 1 ≤ k ∧ k ≤ 3) {xs : List Pl} (h : xs.Pairwise apart) : (upT k xs).Pairwise apart := by
  unfold upT upN
  rw [List.pairwise_flatMap]
  refine ⟨fun v _ => ?_, ?_⟩
  · unfold cellT
    rw [List.pairwise_map]
    refine List.Pairwise.imp_of_mem ?_ (List.pairwise_lt_range (n := k * k))
    intro i j hi hj hlt hh
    have := (cells_apart hk (s := plAt xs v) (t := plAt xs v) (List.mem_range.1 hi) (List.mem_range.1 hj) hh).2
    omega
  · refine List.Pairwise.imp_of_mem ?_ (List.pairwise_lt_range (n := xs.length))
    intro u v hu hv hlt a ha b hb hh
    obtain ⟨i, hi, rfl⟩ := List.mem_map.1 ha
    obtain ⟨j, hj, rfl⟩ := List.mem_map.1 hb
    have hu' := List.mem_range.1 hu
    have hv' := List.mem_range.1 hv
    have e1 := (cells_apart hk (s := plAt xs u) (t := plAt xs v) (List.mem_range.1 hi) (List.mem_range.1 hj) hh).1
    rw [plAt_of (List.getElem?_eq_getElem hu'), plAt_of (List.getElem?_eq_getElem hv')] at e1
    exact List.pairwise_iff_getElem.1 h u v hu' hv' hlt e1
theorem form_apart {xs : List Pl} (h : hasFormB xs = true) : xs.Pairwise apart := SortPl.apart (sortPl_valid (form_valid h))
theorem form_of_sort {L : List Pl} (h : SortPl L) (hp : ∀ e ∈ L, ((-60 ≤ e.x ∧ e.x ≤ 60) ∧ (-60 ≤ e.y ∧ e.y ≤ 60)) ∧ 0 ≤ e.t ∧ e.t ≤ 159) (h5 : L.length ≤ 500) : hasFormB L = true := by
  refine hasFormB_ok h5 fun j hj => ?_
  obtain ⟨e, he⟩ : ∃ e, L[j]? = some e := ⟨_, List.getElem?_eq_getElem hj⟩
  have hm := hp e (List.mem_of_getElem? he)
  have hv : validPt e.x e.y = true := by simp only [validPt, Bool.and_eq_true, inB_true]; exact hm.1
  have ht : inB e.t 0 159 = true := inB_true.2 hm.2
  cases j with
  | zero =>
    unfold okPl
    rw [he]
    simp only [hv, ht, Bool.and_self]
  | succ j =>
    obtain ⟨d, hd⟩ : ∃ d, L[j]? = some d := ⟨_, List.getElem?_eq_getElem (by omega)⟩
    have hl : lessPt d.x d.y e.x e.y = true := by
      obtain ⟨h1, e1⟩ := List.getElem?_eq_some_iff.1 hd
      obtain ⟨h2, e2⟩ := List.getElem?_eq_some_iff.1 he
      have := List.pairwise_iff_getElem.1 h j (j + 1) h1 h2 (Nat.lt_succ_self j)
      rw [e1, e2] at this
      exact this
    rw [okPl_eqS he hd, hv, ht, hl]
    rfl
def bigP (k : Nat) (ps : List Pt) : List Pl := sortPl (upT k (asmP ps))
/-- what is known of a drawn shape and of the number it is scaled by -/
structure S3 (ps : List Pt) (k : Nat) : Prop where
  s : Sm ps 9
  k : 1 ≤ k ∧ k ≤ 3
  n : ps.length ≤ 10
theorem S3.to4 {ps : List Pt} {k : Nat} (h : S3 ps k) : S4 ps k := ⟨⟨h.s.srt, fun p hp => by have := h.s.rng p hp; omega⟩, h.k, by have := h.n; omega⟩
section
variable {ps : List Pt} {k : Nat}
theorem kk9 (h3 : S3 ps k) : k * k ≤ 9 := by rcases k123 h3.k with rfl | rfl | rfl <;> decide
theorem up_apart (h3 : S3 ps k) : (upT k (asmP ps)).Pairwise apart := upT_apart h3.k (form_apart (asmP_form h3.s (by omega) (by have := h3.n; omega)))
theorem big_len (h3 : S3 ps k) : (bigP k ps).length = ps.length * (k * k) := by
  unfold bigP upT
  rw [sortPl_len, upN_len]
  unfold asmP
  rw [asmN_len]
theorem big_mem (h3 : S3 ps k) {e : Pl} : e ∈ bigP k ps ↔ ∃ (v : Nat) (p : Pt) (i : Nat), ps[v]? = some p ∧ i < k * k ∧ e = ⟨(k : Int) * p.x + ((i % k : Nat) : Int), (k : Int) * p.y + ((i / k : Nat) : Int), (v : Int) * ((k * k : Nat) : Int) + (i : Int)⟩ := by
  unfold bigP
  rw [sortPl_mem, upT_mem]
  constructor
  · rintro ⟨t, ht, i, hi, rfl⟩
    obtain ⟨v, hv⟩ := List.getElem?_of_mem ht
    obtain ⟨p, hp, rfl⟩ := asmP_at hv
    exact ⟨v, p, i, hp, hi, rfl⟩
  · rintro ⟨v, p, i, hp, hi, rfl⟩
    exact ⟨_, List.mem_of_getElem? (asmP_get hp), i, hi, rfl⟩
theorem big_form (h3 : S3 ps k) : hasFormB (bigP k ps) = true := by
  have h9 := kk9 h3
  have hn := h3.n
  refine form_of_sort (sortPl_strict (up_apart h3)) (fun e he => ?_) ?_
  · obtain ⟨v, p, i, hp, hi, rfl⟩ := (big_mem h3).1 he
    have hr := h3.s.rng p (List.mem_of_getElem? hp)
    have hv := (List.getElem?_eq_some_iff.1 hp).1
    have c1 := cell_rng h3.k (idx_lt h3.k hi).1 hr.1
    have c2 := cell_rng h3.k (idx_lt h3.k hi).2 hr.2
    have hvk : v * (k * k) ≤ 9 * 9 := Nat.mul_le_mul (by omega) h9
    have e1 : (v : Int) * ((k * k : Nat) : Int) = ((v * (k * k) : Nat) : Int) := (Int.natCast_mul _ _).symm
    refine ⟨⟨⟨by simp only; omega, by simp only; omega⟩, by simp only; omega, by simp only; omega⟩, ?_, ?_⟩ <;> simp only <;> rw [e1] <;> omega
  · rw [big_len h3]
    have : ps.length * (k * k) ≤ 10 * 9 := Nat.mul_le_mul h3.n h9
    omega
/-- the scaled assembly stands at the scaled shape's points -/
theorem big_points (h3 : S3 ps k) : (bigP k ps).map plPt = scS k ps := by
  have hk1 := h3.k
  refine SortS.ext (form_shp (big_form h3)).sortS (scS_sorted k ps) fun q => ?_
  rw [List.mem_map, scS_mem]
  constructor
  · rintro ⟨e, he, rfl⟩
    obtain ⟨v, p, i, hp, hi, rfl⟩ := (big_mem h3).1 he
    exact ⟨p, List.mem_of_getElem? hp, i % k, i / k, (idx_lt h3.k hi).1, (idx_lt h3.k hi).2, rfl⟩
  · rintro ⟨p, hp, i, j, hi, hj, rfl⟩
    obtain ⟨v, hv⟩ := List.getElem?_of_mem hp
    have hm : (k * j + i) % k = i := by rw [Nat.mul_add_mod, Nat.mod_eq_of_lt hi]
    have hd : (k * j + i) / k = j := by rw [Nat.mul_add_div (by omega), Nat.div_eq_of_lt hi]; omega
    have hlt : k * j + i < k * k := by
      have : k * j + k ≤ k * k := by rw [← Nat.mul_succ]; exact Nat.mul_le_mul_left _ hj
      omega
    refine ⟨_, (big_mem h3).2 ⟨v, p, k * j + i, hv, hlt, rfl⟩, ?_⟩
    unfold plPt
    simp only [hm, hd]
theorem scS_len (h3 : S3 ps k) : (scS k ps).length = ps.length * (k * k) := by
  rw [← big_points h3, List.length_map, big_len h3]
theorem scS_rng (h3 : S3 ps k) : ∀ q ∈ scS k ps, (-29 ≤ q.x ∧ q.x ≤ 29) ∧ (-29 ≤ q.y ∧ q.y ≤ 29) := fun q hq => by
  obtain ⟨p, hp, i, j, hi, hj, rfl⟩ := scS_mem.1 hq
  have hr := h3.s.rng p hp
  have c1 := cell_rng h3.k hi hr.1
  have c2 := cell_rng h3.k hj hr.2
  simp only
  omega
theorem scS_shape (h3 : S3 ps k) (h1 : 1 ≤ ps.length) : shapeB (scS k ps) = true := by
  have h9 := kk9 h3
  have hl := scS_len h3
  have h2 : ps.length * (k * k) ≤ 10 * 9 := Nat.mul_le_mul h3.n h9
  have h6 : 1 * 1 ≤ ps.length * (k * k) := Nat.mul_le_mul h1 (Nat.mul_le_mul h3.k.1 h3.k.1)
  exact shapeB_of (scS_sorted k ps) (fun q hq => by have := scS_rng h3 q hq; omega) (by omega) (by omega)
theorem big_at (h3 : S3 ps k) {v i : Nat} {p : Pt} (hp : ps[v]? = some p) (hi : i < k * k) : vB (bigP k ps) k p i = (v : Int) * ((k * k : Nat) : Int) + (i : Int) := by
  obtain ⟨j, hj⟩ := List.getElem?_of_mem ((big_mem h3).2 ⟨v, p, i, hp, hi, rfl⟩)
  have hpl := IsPlace.eq (form_valid (big_form h3)) (place_found hj rfl rfl)
  unfold vB
  exact atI_some hpl.symm hj
theorem big_comp (h3 : S3 ps k) {v : Nat} {p : Pt} (hp : ps[v]? = some p) : compI (bigP k ps) k p = (v : Int) := by
  have hk1 := h3.k
  have hK : 0 < k * k := Nat.mul_pos (by omega) (by omega)
  obtain ⟨K, hKe⟩ : ∃ K, k * k = K := ⟨_, rfl⟩
  have hat : ∀ i, i < K → vB (bigP k ps) k p i = (v : Int) * (K : Int) + (i : Int) := fun i hi => by rw [← hKe] at hi ⊢; exact big_at h3 hp hi
  have hdm : ∀ i : Nat, i < K → ((v : Int) * (K : Int) + (i : Int)) / (K : Int) = (v : Int) ∧ ((v : Int) * (K : Int) + (i : Int)) % (K : Int) = (i : Int) := fun i hi => by
    have e1 : (v : Int) * (K : Int) + (i : Int) = ((K * v + i : Nat) : Int) := by rw [Int.natCast_add, Int.natCast_mul, Int.mul_comm]
    rw [e1]
    constructor
    · have : (K * v + i) / K = v := by rw [Nat.mul_add_div (by omega), Nat.div_eq_of_lt hi]; omega
      rw [← Int.natCast_ediv, this]
    · have : (K * v + i) % K = i := by rw [Nat.mul_add_mod, Nat.mod_eq_of_lt hi]
      rw [← Int.natCast_emod, this]
  rw [compI_good]
  · rw [hKe, hat (K - 1) (by omega), (hdm (K - 1) (by omega)).1]
  · intro i hi
    rw [hKe] at hi ⊢
    unfold okC
    refine decide_eq_true ⟨?_, ?_, ?_⟩
    · rw [hat i hi]
      have : (v : Int) * (K : Int) = ((v * K : Nat) : Int) := (Int.natCast_mul _ _).symm
      rw [this]; omega
    · rw [hat i hi]; exact (hdm i hi).2
    · rcases Nat.eq_zero_or_pos i with h | h
      · exact .inl h
      · exact .inr (by rw [hat i hi, hat (i - 1) (by omega), (hdm i hi).1, (hdm (i - 1) (by omega)).1])
theorem big_blocks (h3 : S3 ps k) : blocksP (k : Int) (bigP k ps) = ps := by
  have hk1 := h3.k
  unfold blocksP
  refine SortS.ext (putAll_sorted _ _ List.Pairwise.nil) h3.s.srt fun p => ?_
  rw [putAll_mem, List.mem_map]
  constructor
  · rintro (hp | ⟨e, he, rfl⟩)
    · cases hp
    · obtain ⟨v, p, i, hp, hi, rfl⟩ := (big_mem h3).1 he
      unfold blkP
      simp only [cell_div h3.k (idx_lt h3.k hi).1, cell_div h3.k (idx_lt h3.k hi).2]
      exact List.mem_of_getElem? hp
  · intro hp
    obtain ⟨v, hv⟩ := List.getElem?_of_mem hp
    refine .inr ⟨_, (big_mem h3).2 ⟨v, p, 0, hv, Nat.mul_pos (by omega) (by omega), rfl⟩, ?_⟩
    unfold blkP
    simp only [Nat.zero_mod, Nat.zero_div, cell_div h3.k (show 0 < k by omega)]
/-- the blocks are read as the shape -/
theorem big_decode (h3 : S3 ps k) : decR (bigP k ps) (k : Int) = (asmP ps, 0) := by
  have hk1 := h3.k
  have hb : blkCode (bigP k ps) (k : Int) = 0 := by
    unfold blkCode
    rw [if_pos (big_form h3), if_pos (inB_true.2 (by omega))]
  unfold decR
  rw [if_pos hb]
  congr 1
  show decB (bigP k ps) ((k : Int).toNat) = asmP ps
  rw [Int.toNat_natCast]
  unfold decB decN
  rw [big_blocks h3, List.take_length]
  have hall : ps.filter (delC (bigP k ps) k) = ps := List.filter_eq_self.2 fun p hp => by
    obtain ⟨v, hv⟩ := List.getElem?_of_mem hp
    unfold delC
    rw [big_comp h3 hv]
    exact decide_eq_true (by omega)
  rw [hall]
  apply List.ext_getElem?
  intro v
  rw [List.getElem?_map]
  by_cases hv : v < ps.length
  · have hp := List.getElem?_eq_getElem hv
    rw [hp, asmP_get hp, Option.map_some, big_comp h3 hp]
  · rw [List.getElem?_eq_none (by omega), List.getElem?_eq_none (by unfold asmP; rw [asmN_len]; omega)]
    rfl
end
end Go.Proofs.Ytkppijcjmhkkkaa
/- Walks: the parts of an assembly, of both. -/

namespace Go.Proofs.Ytkppijcjmhkkkaa
open Go.RowKit Go.Shelf
attribute [local go_sem] BelowBy.cell BelowBy.cell_drew stillUpon givesUpon

def partsR (xs : List Pl) : List (List Pl) := if hasFormB xs then partsQ xs else []
theorem partsQ_len (xs : List Pl) : (partsQ xs).length = (partsP (xs.map plPt)).length := by unfold partsQ partsP; rw [List.length_map, List.length_map]
theorem partsR_small (xs : List Pl) : (partsR xs).length ≤ 500 ∧ ∀ l ∈ partsR xs, l.length ≤ 500 := by
  unfold partsR
  split
  · rename_i h
    have hl := form_len h
    refine ⟨?_, fun l hm => ?_⟩
    · rw [partsQ_len]
      have := partsP_len (xs.map plPt)
      rw [List.length_map] at this
      omega
    · unfold partsQ at hm
      rw [List.mem_map] at hm
      obtain ⟨q, hq, rfl⟩ := hm
      obtain ⟨i, hi⟩ := List.mem_iff_getElem?.1 hq
      have := partsN_each hi
      rw [List.length_map] at this ⊢
      omega
  · exact ⟨by simp, fun l hm => by simp at hm⟩
end Go.Proofs.Ytkppijcjmhkkkaa
/- Plain: the parts found by breadth first search are closed, and each has a root. -/



namespace Go.Proofs.Ytkppijcjmhkkkaa
open Go.RowKit
section
variable {nb : Nat → Nat → Option Nat} {n c : Nat} {N0 : List Nat} {st : List Nat × List Nat}
theorem visS_growP : ∀ k j, ∃ l, (visS nb c st (k + j)).1 = (visS nb c st k).1 ++ l
  | k, 0 => ⟨[], by simp⟩
  | k, j + 1 => by
    obtain ⟨l, hl⟩ := visS_growP k j
    obtain ⟨m, hm⟩ := vis4_grow (nb := nb) (c := c) (st := visS nb c st (k + j)) (k + j) 4
    exact ⟨l ++ m, by show (vis4 nb c (k + j) (visS nb c st (k + j)) 4).1 = _; rw [hm, hl, List.append_assoc]⟩
theorem vis1_hitP {k d u v : Nat} (h : VisInv n c N0 st) (hu : st.1[k]? = some u) (hv : nb u d = some v) (hz : N0[v]? = some 0) : v ∈ (vis1 nb c k d st).1 := by
  unfold vis1
  rw [hu]
  simp only [hv]
  split
  · exact List.mem_append.2 (Or.inr (by simp))
  · rename_i hne
    rcases Classical.em (v ∈ st.1) with hm | hm
    · exact hm
    · exact absurd ((h.other v hm).trans hz) hne
theorem vis4_hitP {k u v : Nat} (h : VisInv n c N0 st) (hu : st.1[k]? = some u) : ∀ (e d : Nat), d < e → nb u d = some v → N0[v]? = some 0 → v ∈ (vis4 nb c k st e).1
  | 0, d, hd, _, _ => absurd hd (Nat.not_lt_zero _)
  | e + 1, d, hd, hv, hz => by
    simp only [vis4]
    by_cases hde : d = e
    · subst hde
      exact vis1_hitP (h.four k d) (vis4_at hu d) hv hz
    · obtain ⟨l, hl⟩ := vis1_grow (nb := nb) (c := c) (st := vis4 nb c k st e) k e
      rw [hl]
      exact List.mem_append.2 (Or.inl (vis4_hitP h hu e d (by omega) hv hz))
/-- the found are closed under steps to what had no name -/
theorem visS_closedP (h0 : VisInv n c N0 st) {u v d : Nat} (hu : u ∈ (visS nb c st n).1) (hd : d < 4) (hv : nb u d = some v) (hz : N0[v]? = some 0) : v ∈ (visS nb c st n).1 := by
  have hI := h0.all (nb := nb) n
  obtain ⟨k, hk⟩ := List.mem_iff_getElem?.1 hu
  have hkl : k < (visS nb c st n).1.length := (List.getElem?_eq_some_iff.1 hk).1
  have hkn : k < n := Nat.lt_of_lt_of_le hkl hI.length
  have hthere : (visS nb c st k).1[k]? = some u := by
    obtain ⟨l, hl⟩ := visS_growP (nb := nb) (c := c) (st := st) k (n - k)
    rw [show k + (n - k) = n by omega] at hl
    rcases Nat.lt_or_ge k (visS nb c st k).1.length with h1 | h1
    · rw [hl, List.getElem?_append_left h1] at hk; exact hk
    · have := visS_stop h1 (n - k)
      rw [show k + (n - k) = n by omega] at this
      rw [this] at hkl
      omega
  have hnext : v ∈ (visS nb c st (k + 1)).1 := vis4_hitP (h0.all k) hthere 4 d hd hv hz
  obtain ⟨l, hl⟩ := visS_growP (nb := nb) (c := c) (st := st) (k + 1) (n - (k + 1))
  rw [show k + 1 + (n - (k + 1)) = n by omega] at hl
  rw [hl]
  exact List.mem_append.2 (Or.inl hnext)
end
section
variable {nb : Nat → Nat → Option Nat} {n : Nat}
/-- neighbors have one name -/
theorem allP_near (hsym : ∀ u d v, u < n → d < 4 → nb u d = some v → v < n ∧ ∃ e, e < 4 ∧ nb v e = some u) : ∀ (i u d v c : Nat), c ≠ 0 → (allP nb n i).1[u]? = some c → d < 4 → nb u d = some v → (allP nb n i).1[v]? = some c
  | 0, u, d, v, c, hc, hu, hd, hv => by
    have := List.mem_of_getElem? hu
    simp only [allP] at this
    rw [List.mem_replicate] at this
    exact absurd this.2 hc
  | i + 1, u, d, v, c, hc, hu, hd, hv => by
    have ih := allP_near hsym i
    have hlen := allP_len nb n i
    have hlen1 := allP_len nb n (i + 1)
    have hun : u < n := by rw [← hlen1]; exact (List.getElem?_eq_some_iff.1 hu).1
    obtain ⟨hvn, e, he, hback⟩ := hsym u d v hun hd hv
    by_cases h0 : (allP nb n i).1[i]? = some 0
    · obtain ⟨nm, hnm⟩ : ∃ nm, (allP nb n i).1 = nm := ⟨_, rfl⟩
      obtain ⟨P, hP⟩ : ∃ P, (allP nb n i).2 = P := ⟨_, rfl⟩
      obtain ⟨e1, e2⟩ := allP_yes (nb := nb) (n := n) (i := i) hnm hP (hnm ▸ h0) rfl
      rw [hnm] at ih hlen h0
      have hS := VisInv.start (n := n) (c := P.length + 1) (N0 := nm) (i := i) (Nat.succ_ne_zero _) hlen h0
      have hV := hS.all (nb := nb) n
      rw [e1] at hu ⊢
      obtain ⟨x, hx⟩ : ∃ x, nm[v]? = some x := ⟨_, List.getElem?_eq_getElem (by rw [hlen]; exact hvn)⟩
      rcases Classical.em (u ∈ (visS nb (P.length + 1) ([i], nm.set i (P.length + 1)) n).1) with hm | hm
      · have hc2 := hV.is u hm
        rw [hu] at hc2
        rcases Nat.eq_zero_or_pos x with h | h
        · subst h
          rw [hV.is v (visS_closedP hS hm hd hv hx)]
          exact hc2.symm
        · have := ih v e u x (by omega) hx he hback
          rw [hV.was u hm] at this
          injection this with this
          omega
      · rw [hV.other u hm] at hu
        have hvc := ih u d v c hc hu hd hv
        have hmv : v ∉ (visS nb (P.length + 1) ([i], nm.set i (P.length + 1)) n).1 := fun h => by
          rw [hV.was v h] at hvc
          injection hvc with hvc
          exact hc hvc.symm
        rw [hV.other v hmv]
        exact hvc
    · rw [allP_no h0] at hu ⊢
      exact ih u d v c hc hu hd hv
theorem visS_first {c i : Nat} {nm : List Nat} (k : Nat) : i ∈ (visS nb c ([i], nm) k).1 := by
  obtain ⟨l, hl⟩ := visS_growP (nb := nb) (c := c) (st := ([i], nm)) 0 k
  rw [Nat.zero_add] at hl
  rw [hl]
  exact List.mem_append.2 (Or.inl (by simp [visS]))
/-- each part has a root: its least, from which all of it is reached -/
theorem allP_root : ∀ (i q : Nat) (l : List Nat), (allP nb n i).2[q]? = some l → ∃ r, r ∈ l ∧ (∀ v ∈ l, r ≤ v) ∧ ∀ S : Nat → Prop, (∀ u d v, S u → d < 4 → nb u d = some v → S v) → S r → ∀ v ∈ l, S v
  | 0, q, l, h => by simp [allP] at h
  | i + 1, q, l, h => by
    have ih := allP_root i
    have hlen := allP_len nb n i
    have hdone := allP_done (nb := nb) (n := n) i
    by_cases h0 : (allP nb n i).1[i]? = some 0
    · obtain ⟨nm, hnm⟩ : ∃ nm, (allP nb n i).1 = nm := ⟨_, rfl⟩
      obtain ⟨P, hP⟩ : ∃ P, (allP nb n i).2 = P := ⟨_, rfl⟩
      obtain ⟨e1, e2⟩ := allP_yes (nb := nb) (n := n) (i := i) hnm hP (hnm ▸ h0) rfl
      rw [hP] at ih
      rw [hnm] at hlen h0 hdone
      have hS := VisInv.start (n := n) (c := P.length + 1) (N0 := nm) (i := i) (Nat.succ_ne_zero _) hlen h0
      have hV := hS.all (nb := nb) n
      rw [e2] at h
      rcases Nat.lt_or_ge q P.length with hq | hq
      · rw [List.getElem?_append_left hq] at h
        exact ih q l h
      · rw [List.getElem?_append_right hq] at h
        have hq0 : q - P.length = 0 := by
          have := (List.getElem?_eq_some_iff.1 h).1
          simp at this
          omega
        rw [hq0] at h
        simp at h
        subst h
        refine ⟨i, visS_first n, fun v hv => ?_, fun S hS2 hr v hv => ?_⟩
        · rcases Nat.lt_or_ge v i with h | h
          · exact absurd (hV.was v hv) (hdone v h)
          · exact h
        · exact vis_within (nb := nb) hS2 (st := ([i], nm.set i (P.length + 1))) (fun u hu => by simp at hu; subst hu; exact hr) n v hv
    · rw [allP_no h0] at h
      exact ih q l h
/-- one part where all is reached from 0 -/
theorem allP_whole (hn : 0 < n) (h : ∀ v, v < n → v ∈ (visS nb 1 ([0], (List.replicate n 0).set 0 1) n).1) : (allP nb n n).2.length = 1 := by
  have h1 := allP_one (nb := nb) hn
  have hI := (VisInv.start (n := n) (c := 1) (N0 := List.replicate n 0) (i := 0) (by decide) (List.length_replicate ..) (by rw [List.getElem?_replicate, if_pos hn])).all (nb := nb) n
  have hne : ∀ v, (allP nb n 1).1[v]? ≠ some 0 := fun v hv => by
    have hvn : v < n := by have := (List.getElem?_eq_some_iff.1 hv).1; rw [allP_len] at this; exact this
    rw [h1, hI.is v (h v hvn)] at hv
    injection hv with hv
    omega
  have hall : ∀ i, allP nb n (i + 1) = allP nb n 1 := by
    intro i
    induction i with
    | zero => rfl
    | succ i ih =>
      rw [allP_no (by rw [ih]; exact hne (i + 1)), ih]
  obtain ⟨m, rfl⟩ : ∃ m, n = m + 1 := ⟨n - 1, by omega⟩
  rw [hall m, h1]
  rfl
end
end Go.Proofs.Ytkppijcjmhkkkaa
