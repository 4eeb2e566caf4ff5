import Derived.Test.YtkppijcjmhkkkaaGAP
import Derived.Test.YtkppijcjmhkkkaaGAQ
import Derived.Test.YtkppijcjmhkkkaaGAT
import Derived.Test.YtkppijcjmhkkkaaGAR
import Derived.Test.YtkppijcjmhkkkaaGAS
set_option linter.unusedSimpArgs false
set_option linter.unusedVariables false
/- Walks: the program's parts of an assembly. -/



namespace Go.Proofs.Ytkppijcjmhkkkaa
open Go.RowKit Go.Shelf
attribute [local go_sem] BelowBy.cell BelowBy.cell_drew stillUpon givesUpon

/-- an assembly in form is valid with tiles that have no glues -/
def noTiles : List Ti := List.replicate 160 ⟨⟨#[]⟩, [0, 0, 0, 0]⟩
theorem form_valid {xs : List Pl} (h : hasFormB xs = true) : Valid [] noTiles xs := by
  unfold hasFormB at h
  simp only [Bool.and_eq_true, decide_eq_true_eq] at h
  obtain ⟨hf, h4⟩ := h
  have hpl : ∀ (k : Nat) (e : Pl), xs[k]? = some e → validPt e.x e.y = true ∧ inB e.t 0 159 = true := fun k e he => by
    have := allB_at hf (lt_of_get he)
    unfold okPl at this
    rw [he] at this
    simp only [Bool.and_eq_true] at this
    exact this.1
  have hstep : ∀ (k : Nat) (d e : Pl), xs[k]? = some d → xs[k + 1]? = some e → lessPt d.x d.y e.x e.y = true := fun k d e hd he => by
    have := allB_at hf (lt_of_get he)
    rw [okPl_eqS he hd] at this
    simp only [Bool.and_eq_true] at this
    exact this.2
  have hn : noTiles.length = 160 := by unfold noTiles; exact List.length_replicate
  have ht : ∀ (j : Nat) (t : Ti), noTiles[j]? = some t → t.sides = [0, 0, 0, 0] := fun j t hj => by
    have := List.mem_of_getElem? hj
    unfold noTiles at this
    rw [(List.mem_replicate.1 this).2]
  refine ⟨h4, by simp, by omega, fun k e he => ?_, fun k e he => ?_, ?_, fun j t hj => by rw [ht j t hj]; rfl, fun j t d v hj hd => ?_, fun j g hj => by simp at hj⟩
  · have := (hpl k e he).1
    simp only [validPt, Bool.and_eq_true, inB_true] at this
    exact this
  · have := inB_true.1 (hpl k e he).2
    exact ⟨e.t.toNat, by omega, by omega⟩
  · intro i j d e hij hd he
    induction j generalizing e with
    | zero => omega
    | succ j ih =>
      have hj : j < xs.length := by have := lt_of_get he; omega
      obtain ⟨c, hc⟩ : ∃ c, xs[j]? = some c := ⟨_, List.getElem?_eq_getElem hj⟩
      have h2 := hstep j c e hc he
      rcases Nat.lt_or_ge i j with h | h
      · have h1 := ih c h hc
        rw [lessPt_iff] at h1 h2 ⊢
        omega
      · obtain rfl : i = j := by omega
        rw [hd] at hc
        injection hc with hc
        subst hc
        exact h2
  · rw [ht j t hj] at hd
    have := List.mem_of_getElem? hd
    simp at this
    exact ⟨0, by omega, by omega⟩
theorem form_shp {xs : List Pl} (h : hasFormB xs = true) : Shp (xs.map plPt) := by
  have hV := form_valid h
  refine ⟨fun k e he => ?_, fun i j d e hij hd he => ?_⟩
  · rw [List.getElem?_map, Option.map_eq_some_iff] at he
    obtain ⟨a, ha, rfl⟩ := he
    exact hV.pt k a ha
  · rw [List.getElem?_map, Option.map_eq_some_iff] at hd he
    obtain ⟨a, ha, rfl⟩ := hd
    obtain ⟨b, hb, rfl⟩ := he
    exact hV.sorted i j a b hij ha hb
theorem form_len {xs : List Pl} (h : hasFormB xs = true) : xs.length ≤ 500 := by
  unfold hasFormB at h
  simp only [Bool.and_eq_true, decide_eq_true_eq] at h
  exact h.2
def plAt (xs : List Pl) (v : Nat) : Pl := (xs[v]?).getD ⟨0, 0, 0⟩
theorem plAt_of {xs : List Pl} {v : Nat} {e : Pl} (h : xs[v]? = some e) : plAt xs v = e := by unfold plAt; rw [h]; rfl
/-- the parts of an assembly -/
def partsQ (xs : List Pl) : List (List Pl) := (partsN (xs.map plPt)).map fun l => l.map (plAt xs)
noncomputable def tileOf (xs : List Pl) (p : Pt) : Pl := ⟨p.x, p.y, atI xs p.x p.y⟩
theorem tileOf_at {xs : List Pl} (h : hasFormB xs = true) {v : Nat} (hv : v < xs.length) : tileOf xs (ptAt (xs.map plPt) v) = plAt xs v := by
  obtain ⟨e, he⟩ : ∃ e, xs[v]? = some e := ⟨_, List.getElem?_eq_getElem hv⟩
  rw [plAt_of he, ptAt_of (show (xs.map plPt)[v]? = some (plPt e) by rw [List.getElem?_map, he]; rfl)]
  have hp := IsPlace.eq (form_valid h) (place_found he rfl rfl)
  unfold tileOf plPt
  simp only
  rw [atI_some hp.symm he]
theorem partsQ_tile {xs : List Pl} (h : hasFormB xs = true) : partsQ xs = (partsP (xs.map plPt)).map fun l => l.map (tileOf xs) := by
  unfold partsQ partsP
  rw [List.map_map]
  apply List.map_congr_left
  intro l hl
  obtain ⟨i, hi⟩ := List.mem_iff_getElem?.1 hl
  have hlt := partsN_lt hi
  unfold ptsAt
  show l.map (plAt xs) = (l.map (ptAt (xs.map plPt))).map (tileOf xs)
  rw [List.map_map]
  apply List.map_congr_left
  intro v hv
  have := hlt v hv
  rw [List.length_map] at this
  exact (tileOf_at h this).symm
/-- how the parts lie -/
def plRows (P : List (List Pl)) : List (List Value) := P.map plCells
def PtsQ (w : World) (n : Nat) (l : List Pt) (e : Ending) (w' : World) : Prop :=
  ∃ A c, e = .returned (.slice A n c) ∧ w'.ownsRow w.heap.size 49 2 (.slice A n c) n (ptCells l) ∧ Below w.heap.size w w'
end Go.Proofs.Ytkppijcjmhkkkaa
/- Plain: the blocks of an assembly. -/



namespace Go.Proofs.Ytkppijcjmhkkkaa
open Go.RowKit Go.Shelf
attribute [local go_sem] BelowBy.cell BelowBy.cell_drew stillUpon givesUpon

def blkP (k : Int) (e : Pl) : Pt := ⟨e.x / k, e.y / k⟩
def blocksP (k : Int) (xs : List Pl) : List Pt := putAll [] (xs.map (blkP k))
theorem putP_len_le (L : List Pt) (x y : Int) : (putP L x y).length ≤ L.length + 1 := by
  unfold putP
  simp only []
  split <;> simp <;> omega
theorem putAll_len (ps : List Pt) : ∀ L : List Pt, (putAll L ps).length ≤ L.length + ps.length := by
  induction ps with
  | nil => intro L; exact Nat.le_refl _
  | cons p ps ih =>
    intro L
    have := putP_len_le L p.x p.y
    have h2 := ih (putP L p.x p.y)
    simp only [putAll, List.length_cons]
    omega
theorem cell_pt2n (w : World) (a b : Value) (t : TypeId) (m : Nat) (hm : m = w.heap.size) : ∀ j u, [a, b][j]? = some u → (w.alloc (.cells #[a, b] t)).cell? ((⟨m, 0, none⟩ : Addr).add j) = some u := by
  subst hm; exact cell_pt2 w a b t
end Go.Proofs.Ytkppijcjmhkkkaa
/- Plain: is a block complete? -/

namespace Go.Proofs.Ytkppijcjmhkkkaa
open Go.RowKit Go.Shelf
/-- the tile at place i of a block -/
noncomputable def vB (xs : List Pl) (k : Nat) (b : Pt) (i : Nat) : Int := atI xs ((k : Int) * b.x + ((i % k : Nat) : Int)) ((k : Int) * b.y + ((i / k : Nat) : Int))
theorem vB_rng {xs : List Pl} (h : hasFormB xs = true) (k : Nat) (b : Pt) (i : Nat) : -1 ≤ vB xs k b i ∧ vB xs k b i ≤ 159 := by
  unfold vB
  rcases atI_cases (form_valid h) ((k : Int) * b.x + ((i % k : Nat) : Int)) ((k : Int) * b.y + ((i / k : Nat) : Int)) with ⟨_, h2⟩ | ⟨j, t, e, _, _, _, ht, h2⟩
  · rw [h2]; omega
  · rw [h2]
    have : noTiles.length = 160 := by unfold noTiles; exact List.length_replicate
    omega
def okC (F : Nat → Int) (K i : Nat) : Bool := decide (0 ≤ F i ∧ F i % (K : Int) = (i : Int) ∧ (i = 0 ∨ F i / (K : Int) = F (i - 1) / (K : Int)))
noncomputable def compI (xs : List Pl) (k : Nat) (b : Pt) : Int := if allB (k * k) (okC (vB xs k b) (k * k)) then vB xs k b (k * k - 1) / ((k * k : Nat) : Int) else -1
theorem compI_bad {xs : List Pl} {k : Nat} {b : Pt} {i : Nat} (hi : i < k * k) (h : okC (vB xs k b) (k * k) i = false) : compI xs k b = -1 := by
  unfold compI; rw [allB_false hi h]; rfl
theorem compI_good {xs : List Pl} {k : Nat} {b : Pt} (h : ∀ i, i < k * k → okC (vB xs k b) (k * k) i = true) : compI xs k b = vB xs k b (k * k - 1) / ((k * k : Nat) : Int) := by
  unfold compI; rw [allB_true h]; rfl
theorem okC_no {F : Nat → Int} {K i : Nat} (h : okC F K i = false) : F i < 0 ∨ (0 ≤ F i ∧ ¬ F i % (K : Int) = (i : Int)) ∨ (0 ≤ F i ∧ F i % (K : Int) = (i : Int) ∧ 0 < i ∧ ¬ F i / (K : Int) = F (i - 1) / (K : Int)) := by
  unfold okC at h
  rw [decide_eq_false_iff_not] at h
  omega
theorem okC_yes {F : Nat → Int} {K i : Nat} (h : okC F K i = true) : 0 ≤ F i ∧ F i % (K : Int) = (i : Int) ∧ (i = 0 ∨ F i / (K : Int) = F (i - 1) / (K : Int)) := by
  unfold okC at h
  rwa [decide_eq_true_eq] at h
/-- the program's test: the difference to the place -/
theorem okC_yesI {F : Nat → Int} {K i : Nat} (hK : K = 1 ∨ K = 4 ∨ K = 9 ∨ K = 16) (hi : i < K) (hp : 0 < i → okC F K (i - 1) = true) (h : okC F K i = true) :
    0 ≤ F i - (i : Int) ∧ (F i - (i : Int)) % (K : Int) = 0 ∧ (i = 0 ∨ F i - (i : Int) = F (i - 1) - ((i : Int) - 1)) := by
  obtain ⟨h1, h2, h3⟩ := okC_yes h
  rcases Nat.eq_zero_or_pos i with h0 | h0
  · subst h0
    rcases hK with rfl | rfl | rfl | rfl <;> omega
  · obtain ⟨p1, p2, _⟩ := okC_yes (hp h0)
    obtain ⟨j, rfl⟩ : ∃ j, i = j + 1 := ⟨i - 1, by omega⟩
    simp only [Nat.add_sub_cancel] at *
    rcases hK with rfl | rfl | rfl | rfl <;> omega
theorem okC_noI {F : Nat → Int} {K i : Nat} (hK : K = 1 ∨ K = 4 ∨ K = 9 ∨ K = 16) (hi : i < K) (hp : 0 < i → okC F K (i - 1) = true) (h : okC F K i = false) :
    F i - (i : Int) < 0 ∨ (0 ≤ F i - (i : Int) ∧ ¬ (F i - (i : Int)) % (K : Int) = 0) ∨ (0 ≤ F i - (i : Int) ∧ (F i - (i : Int)) % (K : Int) = 0 ∧ 0 < i ∧ ¬ F i - (i : Int) = F (i - 1) - ((i : Int) - 1)) := by
  have h3 := okC_no h
  rcases Nat.eq_zero_or_pos i with h0 | h0
  · subst h0
    rcases hK with rfl | rfl | rfl | rfl <;> omega
  · obtain ⟨p1, p2, _⟩ := okC_yes (hp h0)
    obtain ⟨j, rfl⟩ : ∃ j, i = j + 1 := ⟨i - 1, by omega⟩
    simp only [Nat.add_sub_cancel] at *
    rcases hK with rfl | rfl | rfl | rfl <;> omega
theorem compI_endI {F : Nat → Int} {K : Nat} (hK : K = 1 ∨ K = 4 ∨ K = 9 ∨ K = 16) (h : okC F K (K - 1) = true) : (F (K - 1) - ((K : Int) - 1)) / (K : Int) = F (K - 1) / (K : Int) := by
  obtain ⟨h1, h2, h3⟩ := okC_yes h
  rcases hK with rfl | rfl | rfl | rfl <;> omega
theorem rect_get {k i : Nat} (hk : 1 ≤ k ∧ k ≤ 4) (hi : i < k * k) : (rectP 0 0 k k)[i]? = some ⟨((i % k : Nat) : Int), ((i / k : Nat) : Int)⟩ := by
  have h1 : ∀ i, i < 1 → (rectP 0 0 1 1)[i]? = some ⟨((i % 1 : Nat) : Int), ((i / 1 : Nat) : Int)⟩ := by decide
  have h2 : ∀ i, i < 4 → (rectP 0 0 2 2)[i]? = some ⟨((i % 2 : Nat) : Int), ((i / 2 : Nat) : Int)⟩ := by decide
  have h3 : ∀ i, i < 9 → (rectP 0 0 3 3)[i]? = some ⟨((i % 3 : Nat) : Int), ((i / 3 : Nat) : Int)⟩ := by decide
  have h4 : ∀ i, i < 16 → (rectP 0 0 4 4)[i]? = some ⟨((i % 4 : Nat) : Int), ((i / 4 : Nat) : Int)⟩ := by decide
  have : k = 1 ∨ k = 2 ∨ k = 3 ∨ k = 4 := by omega
  rcases this with rfl | rfl | rfl | rfl
  · exact h1 i hi
  · exact h2 i hi
  · exact h3 i hi
  · exact h4 i hi
theorem sq_cases {k : Nat} (hk : 1 ≤ k ∧ k ≤ 4) : k * k = 1 ∨ k * k = 4 ∨ k * k = 9 ∨ k * k = 16 := by
  have : k = 1 ∨ k = 2 ∨ k = 3 ∨ k = 4 := by omega
  rcases this with rfl | rfl | rfl | rfl <;> simp
end Go.Proofs.Ytkppijcjmhkkkaa
