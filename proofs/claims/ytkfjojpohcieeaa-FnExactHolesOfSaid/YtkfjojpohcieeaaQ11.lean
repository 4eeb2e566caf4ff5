/- Walks: the program reaches the points of a shape from one of them. -/
import Derived.Test.YtkfjojpohcieeaaQ10
import Derived.Test.YtkfjojpohcieeaaW82
namespace Go.Proofs.Ytkfjojpohcieeaa
open Go.RowKit Go.Shelf
set_option linter.unusedSimpArgs false
set_option linter.unusedVariables false
attribute [local go_sem] BelowBy.cell BelowBy.cell_drew stillUpon givesUpon

theorem Shp.sortedS {ps : List Pt} (h : Shp ps) : SortS ps := by
  unfold SortS
  rw [List.pairwise_iff_getElem]
  exact fun i j hi hj hij => h.sorted i j _ _ hij (List.getElem?_eq_getElem hi) (List.getElem?_eq_getElem hj)
theorem idxP_mem {ps : List Pt} {x y : Int} {v : Nat} (h : idxP ps x y = some v) : decide ((⟨x, y⟩ : Pt) ∈ ps) = true :=
  decide_eq_true (List.mem_of_getElem? (idxP_some h))
theorem idxP_off {ps : List Pt} {x y : Int} (h : idxP ps x y = none) : decide ((⟨x, y⟩ : Pt) ∈ ps) = false :=
  decide_eq_false fun hm => by
    obtain ⟨k, hk⟩ := List.mem_iff_getElem?.1 hm
    exact idxP_none h k hk
/-- a trip: its point, the block of the one before it, direction and steps -/
structure TripAt (w : World) (g : Nat) (e : Pt) (f : Option Nat) (d s : Int) : Prop where
  lt : g < w.heap.size
  c0 : w.cell? ⟨g, 0, none⟩ = some (.int .i64 e.x)
  c1 : w.cell? ⟨g, 1, none⟩ = some (.int .i64 e.y)
  c2 : w.cell? ⟨g, 2, none⟩ = some (ptrV f)
  c3 : w.cell? ⟨g, 3, none⟩ = some (.int .i64 d)
  c4 : w.cell? ⟨g, 4, none⟩ = some (.int .i64 s)
theorem TripAt.kept {w w' : World} {g : Nat} {e : Pt} {f : Option Nat} {d s : Int} {row : Option Nat} (h : TripAt w g e f d s) (hg : w.grownBy w' row) (hne : some g ≠ row) : TripAt w' g e f d s := by
  have hb : ∀ o, w'.cell? ⟨g, o, none⟩ = w.cell? ⟨g, o, none⟩ := fun o => World.cell?_of_block (a := ⟨g, o, none⟩) (hg.block g h.lt hne)
  exact ⟨Nat.lt_of_lt_of_le h.lt hg.size, (hb 0).trans h.c0, (hb 1).trans h.c1, (hb 2).trans h.c2, (hb 3).trans h.c3, (hb 4).trans h.c4⟩
abbrev WaySt := List Nat × List Int × List Int
/-- the trips of a search: T gives the block of a place's trip -/
structure Trips (w : World) (B : Nat) (ps : List Pt) (st : WaySt) (T : Nat → Option Nat) : Prop where
  off : ∀ v, v ∉ st.1 → T v = none
  on : ∀ v, v ∈ st.1 → ∃ (g : Nat) (e : Pt) (f : Option Nat) (d s : Int), T v = some g ∧ B ≤ g ∧ ps[v]? = some e ∧ st.2.1[v]? = some d ∧ st.2.2[v]? = some s ∧ TripAt w g e f d s ∧
    ((d = -1 ∧ f = none) ∨ ∃ dn u : Nat, d = (dn : Int) ∧ dn < 4 ∧ nbP ps v dn = some u ∧ u ∈ st.1 ∧ f = T u)
  inj : ∀ u v g, T u = some g → T v = some g → u = v
section
variable {w w' : World} {B : Nat} {ps : List Pt} {st : WaySt} {T : Nat → Option Nat}
theorem Trips.kept {row : Option Nat} (h : Trips w B ps st T) (hg : w.grownBy w' row) (hne : ∀ u g, T u = some g → some g ≠ row) : Trips w' B ps st T := by
  refine ⟨h.off, fun v hv => ?_, h.inj⟩
  obtain ⟨g, e, f, d, s, h1, h2, h3, h4, h5, h6, h7⟩ := h.on v hv
  exact ⟨g, e, f, d, s, h1, h2, h3, h4, h5, h6.kept hg (hne v g h1), h7⟩
theorem Trips.below (h : Trips w B ps st T) (hb : Below w.heap.size w w') : Trips w' B ps st T := h.kept (grown_below hb none) (fun u g _ e => by cases e)
theorem Trips.lt (h : Trips w B ps st T) {u g : Nat} (hu : T u = some g) : B ≤ g ∧ g < w.heap.size := by
  rcases Classical.em (u ∈ st.1) with hm | hm
  · obtain ⟨g', e, f, d, s, h1, h2, h3, h4, h5, h6, h7⟩ := h.on u hm
    rw [hu] at h1
    injection h1 with h1
    subst h1
    exact ⟨h2, h6.lt⟩
  · rw [h.off u hm] at hu; cases hu
/-- one more trip -/
theorem Trips.push {n r : Nat} {u v g d : Nat} {e : Pt} {su : Int} (h : Trips w B ps st T) (hI : WayInv n r st) (hv : st.2.2[v]? = some (-1)) (hvn : v < n) (he : ps[v]? = some e) (hu : u ∈ st.1) (hd : d < 4) (hb : nbP ps v ((d + 2) % 4) = some u)
    (hgB : B ≤ g) (hT : ∀ x y, T x = some y → y < g) (ht : TripAt w g e (T u) (backI d) su) : Trips w B ps (st.1 ++ [v], st.2.1.set v (backI d), st.2.2.set v su) (fun x => if x = v then some g else T x) := by
  have hnv : v ∉ st.1 := fun hm => by
    obtain ⟨s, hs, h0, _⟩ := hI.is v hm
    rw [hv] at hs
    injection hs with hs
    omega
  have hne : ∀ x ∈ st.1, x ≠ v := fun x hx e' => hnv (e' ▸ hx)
  refine ⟨fun x hx => ?_, fun x hx => ?_, fun x y k hx hy => ?_⟩
  · have h1 : x ∉ st.1 := fun hm => hx (List.mem_append.2 (.inl hm))
    have h2 : x ≠ v := fun e' => hx (List.mem_append.2 (.inr (by simp [e'])))
    simp only [if_neg h2]
    exact h.off x h1
  · rcases List.mem_append.1 hx with hx | hx
    · obtain ⟨g', e', f, d', s, h1, h2, h3, h4, h5, h6, h7⟩ := h.on x hx
      have hxv := hne x hx
      refine ⟨g', e', f, d', s, by simp only [if_neg hxv]; exact h1, h2, h3, ?_, ?_, h6, ?_⟩
      · show (st.2.1.set v _)[x]? = _
        rw [List.getElem?_set_ne (Ne.symm hxv)]; exact h4
      · show (st.2.2.set v _)[x]? = _
        rw [List.getElem?_set_ne (Ne.symm hxv)]; exact h5
      · rcases h7 with h7 | ⟨dn, u', a1, a2, a3, a4, a5⟩
        · exact .inl h7
        · exact .inr ⟨dn, u', a1, a2, a3, List.mem_append.2 (.inl a4), by simp only [if_neg (hne u' a4)]; exact a5⟩
    · simp at hx
      subst hx
      refine ⟨g, e, T u, backI d, su, by simp, hgB, he, ?_, ?_, ht, .inr ⟨(d + 2) % 4, u, rfl, by omega, hb, List.mem_append.2 (.inl hu), by simp only [if_neg (hne u hu)]⟩⟩
      · show (st.2.1.set x _)[x]? = _
        rw [List.getElem?_set_self (by rw [hI.lp]; exact hvn)]
      · show (st.2.2.set x _)[x]? = _
        rw [List.getElem?_set_self (by rw [hI.ls]; exact hvn)]
  · by_cases hxv : x = v
    · by_cases hyv : y = v
      · rw [hxv, hyv]
      · simp only [if_pos hxv, if_neg hyv] at hx hy
        injection hx with hx
        have := hT y k hy
        omega
    · by_cases hyv : y = v
      · simp only [if_neg hxv, if_pos hyv] at hx hy
        injection hy with hy
        have := hT x k hx
        omega
      · simp only [if_neg hxv, if_neg hyv] at hx hy
        exact h.inj x y k hx hy
end
/-- what the map of the trips says -/
def tripM (ps : List Pt) (T : Nat → Option Nat) (x y : Int) : Option Nat := (idxP ps x y).bind T
theorem tripM_none {ps : List Pt} {T : Nat → Option Nat} {x y : Int} (h : idxP ps x y = none) : tripM ps T x y = none := by unfold tripM; rw [h]; rfl
theorem tripM_at {ps : List Pt} {T : Nat → Option Nat} {x y : Int} {v : Nat} (h : idxP ps x y = some v) : tripM ps T x y = T v := by unfold tripM; rw [h]; rfl
theorem tripM_put {ps : List Pt} (hS : Shp ps) {T : Nat → Option Nat} {v g : Nat} {e : Pt} (he : ps[v]? = some e) (x y : Int) : (if x = e.x ∧ y = e.y then some g else tripM ps T x y) = tripM ps (fun u => if u = v then some g else T u) x y := by
  unfold tripM
  by_cases hxy : x = e.x ∧ y = e.y
  · obtain ⟨rfl, rfl⟩ := hxy
    rw [hS.idx he]
    simp
  · rw [if_neg hxy]
    cases hi : idxP ps x y with
    | none => rfl
    | some k =>
      have hk : k ≠ v := fun e' => by
        subst e'
        have := idxP_some hi
        rw [he] at this
        injection this with this
        subst this
        exact hxy ⟨rfl, rfl⟩
      simp [hk]
theorem way1_none {ps : List Pt} {k d u : Nat} {st : WaySt} {e : Pt} (hu : st.1[k]? = some u) (he : ps[u]? = some e) (hl : idxP ps (stepX e.x d) (stepY e.y d) = none) : way1 (nbP ps) k d st = st := by
  unfold way1 nbP
  rw [hu]
  simp only [he, hl]
theorem way1_old {ps : List Pt} {k d u v : Nat} {st : WaySt} {e : Pt} {s : Int} (hu : st.1[k]? = some u) (he : ps[u]? = some e) (hl : idxP ps (stepX e.x d) (stepY e.y d) = some v) (hv : st.2.2[v]? = some s) (hs : s ≠ -1) : way1 (nbP ps) k d st = st := by
  unfold way1 nbP
  rw [hu]
  simp only [he, hl, hv]
  rw [if_neg (fun e => hs (by injection e))]
theorem way1_new {ps : List Pt} {k d u v : Nat} {st : WaySt} {e : Pt} {s : Int} (hu : st.1[k]? = some u) (he : ps[u]? = some e) (hl : idxP ps (stepX e.x d) (stepY e.y d) = some v) (hv : st.2.2[v]? = some (-1)) (hs : st.2.2[u]? = some s) : way1 (nbP ps) k d st = (st.1 ++ [v], st.2.1.set v (backI d), st.2.2.set v (s + 1)) := by
  unfold way1 nbP
  rw [hu]
  simp only [he, hl, hv, hs]
  rfl
theorem nbP_back {ps : List Pt} (h : Shp ps) {u d v : Nat} {e : Pt} (hu : ps[u]? = some e) (hd : d < 4) (hv : idxP ps (stepX e.x d) (stepY e.y d) = some v) : nbP ps v ((d + 2) % 4) = some u := by
  have hk := idxP_some hv
  unfold nbP
  rw [hk]
  simp only
  have hb : stepX (stepX e.x d) (((d + 2) % 4 : Nat) : Int) = e.x ∧ stepY (stepY e.y d) (((d + 2) % 4 : Nat) : Int) = e.y := by
    have : d = 0 ∨ d = 1 ∨ d = 2 ∨ d = 3 := by omega
    rcases this with rfl | rfl | rfl | rfl <;> simp [stepX, stepY]
  rw [hb.1, hb.2]
  exact h.idx hu
theorem oppN_back (d : Nat) (hd : d < 4) : (oppN d : Int) = backI d := by
  have : d = 0 ∨ d = 1 ∨ d = 2 ∨ d = 3 := by omega
  rcases this with rfl | rfl | rfl | rfl <;> rfl
end Go.Proofs.Ytkfjojpohcieeaa
