import Derived.Test.YtkppijcjmhkkkaaGAZ
import Derived.Test.YtkppijcjmhkkkaaGAQ
import Derived.Test.YtkppijcjmhkkkaaGAL
import Derived.Test.YtkppijcjmhkkkaaGAS
import Derived.Test.YtkppijcjmhkkkaaGAT
import Derived.Test.YtkppijcjmhkkkaaGAN
import Derived.Test.YtkppijcjmhkkkaaGAY
set_option linter.unusedSimpArgs false
set_option linter.unusedVariables false
/- Walks: the reference puts a tile into an assembly. -/







namespace Go.Proofs.Ytkppijcjmhkkkaa
open Go.RowKit Go.Shelf
attribute [local go_sem] BelowBy.cell BelowBy.cell_drew stillUpon givesUpon BelowBy.cell_drew2 BelowBy.cell_drew3

/-- what has been laid when i tiles have been looked at -/
def putR (ys : List Pl) (e : Pl) (j0 i : Nat) : List Pl := if j0 < i then insL (ys.take i) j0 e else ys.take i
theorem putR_lt {ys : List Pl} {e d : Pl} {j0 i : Nat} (h : i < j0) (hd : ys[i]? = some d) : putR ys e j0 (i + 1) = putR ys e j0 i ++ [d] := by
  obtain ⟨hi, rfl⟩ := List.getElem?_eq_some_iff.1 hd
  unfold putR
  rw [if_neg (by omega), if_neg (by omega), List.take_succ_eq_append_getElem hi]
theorem putR_eq {ys : List Pl} {e d : Pl} {j0 : Nat} (hd : ys[j0]? = some d) : putR ys e j0 (j0 + 1) = (putR ys e j0 j0 ++ [e]) ++ [d] := by
  obtain ⟨hi, rfl⟩ := List.getElem?_eq_some_iff.1 hd
  unfold putR insL
  rw [if_pos (by omega), if_neg (by omega), List.take_take, List.drop_take]
  have h1 : min j0 (j0 + 1) = j0 := by omega
  have h2 : j0 + 1 - j0 = 1 := by omega
  rw [h1, h2, show (ys.drop j0).take 1 = [ys[j0]] by rw [List.drop_eq_getElem_cons hi]; rfl]
  simp
theorem putR_gt {ys : List Pl} {e d : Pl} {j0 i : Nat} (h : j0 < i) (hd : ys[i]? = some d) : putR ys e j0 (i + 1) = putR ys e j0 i ++ [d] := by
  obtain ⟨hi, rfl⟩ := List.getElem?_eq_some_iff.1 hd
  unfold putR insL
  rw [if_pos (by omega), if_pos h, List.take_take, List.take_take, List.drop_take, List.drop_take]
  have h1 : min j0 (i + 1) = j0 := by omega
  have h2 : min j0 i = j0 := by omega
  have h3 : i + 1 - j0 = (i - j0) + 1 := by omega
  rw [h1, h2, h3, List.take_succ_eq_append_getElem (by simp; omega)]
  simp only [List.getElem_drop, List.append_assoc, List.cons_append]
  have h4 : j0 + (i - j0) = i := by omega
  simp only [h4]
theorem putR_end {ys : List Pl} {e : Pl} {j0 : Nat} (h : j0 < ys.length) : putR ys e j0 ys.length = insL ys j0 e := by
  unfold putR; rw [if_pos h, List.take_length]
theorem putR_end2 {ys : List Pl} {e : Pl} {j0 : Nat} (h : j0 = ys.length) : putR ys e j0 ys.length ++ [e] = insL ys j0 e := by
  subst h; unfold putR; rw [if_neg (by omega), List.take_length, insL_end]
theorem putR_len {ys : List Pl} {e : Pl} {j0 i : Nat} (h : i ≤ ys.length) : (putR ys e j0 i).length = if j0 < i then i + 1 else i := by
  unfold putR
  split
  · rw [insL_len, List.length_take]; omega
  · rw [List.length_take]; omega
theorem cell_three_newA (w : World) (a b c : Value) (t : TypeId) : ∀ j u, [a, b, c][j]? = some u → (w.alloc (Obj.cells #[a, b, c] t)).cell? ((⟨w.heap.size, 0, none⟩ : Addr).add j) = some u := by
  intro j u hj
  match j, hj with
  | 0, hj => simp at hj; subst hj; simp [Addr.add]
  | 1, hj => simp at hj; subst hj; simp [Addr.add]
  | 2, hj => simp at hj; subst hj; simp [Addr.add]
  | j + 3, hj => simp at hj
theorem ownsRow_lowA {w : World} {base base' : Nat} {e : TypeId} {size : Nat} {v : Value} {n : Nat} {xs : List Value} (h : w.ownsRow base e size v n xs) (hb : base' ≤ base) : w.ownsRow base' e size v n xs :=
  ⟨h.1, h.2.imp id (fun ⟨g, cap, cur, h1, h2, h3⟩ => ⟨g, cap, cur, h1, Nat.le_trans hb h2, h3⟩)⟩
theorem ownsRow_setLowA {w : World} {base : Nat} {e : TypeId} {size : Nat} {v : Value} {n : Nat} {xs : List Value} (h : w.ownsRow base e size v n xs) {p : Addr} (hp : p.block < base) (x : Value) : (w.setCell p x).ownsRow base e size v n xs := by
  refine h.kept (row := some p.block) ⟨rfl, rfl, rfl, by simp, fun k hk hne => Below.heap_setCell _ _ _ _ (fun e => hne (by rw [e]))⟩ ?_
  cases hb : v.ownBlock with
  | none => exact .inl rfl
  | some g => exact .inr fun e' => by have := (h.lt g hb).1; injection e'; omega
end Go.Proofs.Ytkppijcjmhkkkaa
/- Plain facts: drawn assemblies. -/

namespace Go.Proofs.Ytkppijcjmhkkkaa
open Go.RowKit
/-- an assembly of at most n tiles with numbers below m, all within B -/
structure DrA (xs : List Pl) (m n B : Nat) : Prop where
  len : xs.length ≤ n
  at_ : ∀ e ∈ xs, (-(B : Int) ≤ e.x ∧ e.x ≤ B) ∧ (-(B : Int) ≤ e.y ∧ e.y ≤ B) ∧ ∃ t : Nat, e.t = t ∧ t < m
  srt : xs.Pairwise fun d e => lessPt d.x d.y e.x e.y = true
theorem DrA.nil (m n B : Nat) : DrA [] m n B := ⟨by simp, fun e he => by simp at he, List.Pairwise.nil⟩
theorem DrA.more {xs : List Pl} {m n B n' B' : Nat} (h : DrA xs m n B) (hn : n ≤ n') (hB : B ≤ B') : DrA xs m n' B' :=
  ⟨Nat.le_trans h.len hn, fun e he => by obtain ⟨⟨a, b⟩, ⟨c, d⟩, t⟩ := h.at_ e he; exact ⟨⟨by omega, by omega⟩, ⟨by omega, by omega⟩, t⟩, h.srt⟩
theorem DrA.one {m n B : Nat} {x y : Int} {t : Nat} (ht : t < m) (hn : 1 ≤ n) (hx : -(B : Int) ≤ x ∧ x ≤ B) (hy : -(B : Int) ≤ y ∧ y ≤ B) : DrA [⟨x, y, t⟩] m n B :=
  ⟨by simpa using hn, fun e he => by simp at he; subst he; exact ⟨hx, hy, t, rfl, ht⟩, by simp⟩
theorem lessPt_no {a b c d : Int} (h : lessPt a b c d = true) : lessPt c d a b = false := by
  cases hh : lessPt c d a b with
  | false => rfl
  | true => have h1 := (lessPt_iff _ _ _ _).1 h; have h2 := (lessPt_iff _ _ _ _).1 hh; omega
theorem lessPt_or {a b c d : Int} (h : lessPt a b c d = false) (hne : ¬ (a = c ∧ b = d)) : lessPt c d a b = true := by
  have h1 : ¬ (b < d ∨ (b = d ∧ a < c)) := by rw [← lessPt_iff, h]; simp
  rw [lessPt_iff]; omega
/-- the place of a new point -/
theorem place_new : ∀ (xs : List Pl) (x y : Int), xs.Pairwise (fun d e => lessPt d.x d.y e.x e.y = true) → (∀ e ∈ xs, ¬ (e.x = x ∧ e.y = y)) → ∃ j, j ≤ xs.length ∧ (∀ e ∈ xs.take j, lessPt e.x e.y x y = true) ∧ ∀ e ∈ xs.drop j, lessPt x y e.x e.y = true
  | [], x, y, _, _ => ⟨0, by simp, by simp, by simp⟩
  | a :: l, x, y, hs, hne => by
    obtain ⟨h1, h2⟩ := List.pairwise_cons.1 hs
    cases hl : lessPt a.x a.y x y with
    | false =>
      have ha := lessPt_or hl (hne a (by simp))
      refine ⟨0, by simp, by simp, fun e he => ?_⟩
      simp only [List.drop_zero, List.mem_cons] at he
      rcases he with rfl | he
      · exact ha
      · exact lessPt_trans ha (h1 e he)
    | true =>
      obtain ⟨j, hj, hlo, hhi⟩ := place_new l x y h2 fun e he => hne e (by simp [he])
      refine ⟨j + 1, by simp; omega, fun e he => ?_, fun e he => ?_⟩
      · simp only [List.take_succ_cons, List.mem_cons] at he
        rcases he with rfl | he
        · exact hl
        · exact hlo e he
      · exact hhi e (by simpa using he)
theorem DrA.insert {xs : List Pl} {m n B : Nat} (h : DrA xs m n B) {x y : Int} {t : Nat} (ht : t < m) (hx : -(B : Int) ≤ x ∧ x ≤ B) (hy : -(B : Int) ≤ y ∧ y ≤ B) (hne : ∀ e ∈ xs, ¬ (e.x = x ∧ e.y = y)) :
    ∃ j, j ≤ xs.length ∧ (∀ (k : Nat) (d : Pl), k < j → xs[k]? = some d → lessPt x y d.x d.y = false) ∧ (∀ (d : Pl), xs[j]? = some d → lessPt x y d.x d.y = true) ∧ DrA (insL xs j ⟨x, y, t⟩) m (n + 1) B := by
  obtain ⟨j, hj, hlo, hhi⟩ := place_new xs x y h.srt hne
  refine ⟨j, hj, fun k d hk hd => lessPt_no (hlo d (List.mem_of_getElem? (i := k) ?_)), fun d hd => hhi d (List.mem_of_getElem? (i := 0) ?_), ?_, fun e he => ?_, ?_⟩
  · rw [List.getElem?_take, if_pos hk]; exact hd
  · rw [List.getElem?_drop]; exact hd
  · have := h.len
    unfold insL
    simp only [List.length_append, List.length_cons, List.length_take, List.length_drop]
    omega
  · unfold insL at he
    rcases List.mem_append.1 he with he | he
    · exact h.at_ e (List.mem_of_mem_take he)
    · rcases List.mem_cons.1 he with rfl | he
      · exact ⟨hx, hy, t, rfl, ht⟩
      · exact h.at_ e (List.mem_of_mem_drop he)
  · unfold insL
    have hsp : xs.take j ++ xs.drop j = xs := List.take_append_drop j xs
    have hs := h.srt
    rw [← hsp, List.pairwise_append] at hs
    rw [List.pairwise_append]
    refine ⟨hs.1, List.pairwise_cons.2 ⟨fun e he => hhi e he, hs.2.1⟩, fun a ha b hb => ?_⟩
    rcases List.mem_cons.1 hb with rfl | hb
    · exact hlo a ha
    · exact hs.2.2 a ha b hb
theorem DrA.valid {gs : List Gl} {ts : List Ti} {xs : List Pl} {m n B : Nat} (h : DrA xs m n B) (h0 : Valid gs ts []) (hm : ts.length = m) (hB : B ≤ 60) (hn : n ≤ 500) : Valid gs ts xs := by
  refine ⟨by have := h.len; omega, h0.gl, h0.tl, fun k e he => ?_, fun k e he => ?_, fun i j d e hij hd he => ?_, h0.four, h0.side, h0.str⟩
  · obtain ⟨⟨a, b⟩, ⟨c, d⟩, _⟩ := h.at_ e (List.mem_of_getElem? he)
    exact ⟨⟨by omega, by omega⟩, by omega, by omega⟩
  · obtain ⟨_, _, t, ht, htm⟩ := h.at_ e (List.mem_of_getElem? he)
    exact ⟨t, ht, by omega⟩
  · have hj := lt_of_get he
    have hi := lt_of_get hd
    have := List.pairwise_iff_getElem.1 h.srt i j hi hj hij
    rw [List.getElem?_eq_getElem hi] at hd
    rw [List.getElem?_eq_getElem hj] at he
    obtain rfl := Option.some.inj hd
    obtain rfl := Option.some.inj he
    exact this
theorem valid_nil {gs : List Gl} {ts : List Ti} (h : validSetB gs ts = true) : Valid gs ts [] := valid_of (by
  unfold validAsmB; rw [h]
  have h1 : hasFormB [] = true := hasFormB_ok (by simp) (fun j hj => by simp at hj)
  have h2 : allB ([] : List Pl).length (okTile ts.length []) = true := allB_true (fun j hj => by simp at hj)
  rw [h1, h2]; rfl)
/-- a set that stands for any of m tiles -/
theorem valid_any (m : Nat) (hm : m ≤ 160) : Valid [] (List.replicate m ⟨ByteArray.empty, [0, 0, 0, 0]⟩) [] := by
  refine ⟨by simp, by simp, by simpa using hm, fun k e h => by simp at h, fun k e h => by simp at h, fun i j d e hij h => by simp at h, fun j t h => ?_, fun j t d v h hv => ?_, fun j g h => by simp at h⟩
  · rw [List.getElem?_replicate] at h
    split at h
    · obtain rfl := Option.some.inj h; rfl
    · cases h
  · rw [List.getElem?_replicate] at h
    split at h
    · obtain rfl := Option.some.inj h
      have : v ∈ [(0 : Int), 0, 0, 0] := List.mem_of_getElem? hv
      simp at this
      exact ⟨0, by simpa using this, by simp⟩
    · cases h
theorem DrA.asm {gs : List Gl} {ts : List Ti} {xs : List Pl} {m n B : Nat} (h : DrA xs m n B) (hv : validSetB gs ts = true) (hm : ts.length = m) (hB : B ≤ 60) (hn : n ≤ 500) : validAsmB gs ts xs = true := by
  have hV := h.valid (valid_nil hv) hm hB hn
  have htl := hV.tl
  unfold validAsmB
  rw [hv]
  have h1 : hasFormB xs = true := by
    refine hasFormB_ok hV.len fun j hj => ?_
    obtain ⟨e, he⟩ : ∃ e, xs[j]? = some e := ⟨_, List.getElem?_eq_getElem hj⟩
    have hp := hV.pt j e he
    obtain ⟨t, ht, htl2⟩ := hV.ti j e he
    have hpt : validPt e.x e.y = true := by unfold validPt; rw [inB_true.2 hp.1, inB_true.2 hp.2]; rfl
    have ht2 : inB e.t 0 159 = true := inB_true.2 (by omega)
    cases j with
    | zero => rw [okPl_eq0 he, hpt, ht2]; rfl
    | succ i =>
      obtain ⟨d, hd⟩ : ∃ d, xs[i]? = some d := ⟨_, List.getElem?_eq_getElem (by omega)⟩
      rw [okPl_eqS he hd, hpt, ht2, hV.sorted i (i + 1) d e (by omega) hd he]; rfl
  have h2 : allB xs.length (okTile ts.length xs) = true := allB_true fun j hj => by
    obtain ⟨e, he⟩ : ∃ e, xs[j]? = some e := ⟨_, List.getElem?_eq_getElem hj⟩
    obtain ⟨t, ht, htl2⟩ := hV.ti j e he
    unfold okTile
    rw [he]
    exact inB_true.2 (by omega)
  rw [h1, h2]; rfl
theorem place_neg {xs : List Pl} {x y : Int} (h : placeI xs x y < 0) : ∀ e ∈ xs, ¬ (e.x = x ∧ e.y = y) := by
  intro e he hxy
  obtain ⟨k, hk⟩ := List.mem_iff_getElem?.1 he
  rcases placeI_is xs x y with ⟨_, h2⟩ | ⟨j, _, h2, _⟩
  · exact h2 k e hk hxy
  · omega
end Go.Proofs.Ytkppijcjmhkkkaa
/- Plain: the parts of an assembly are apart, no two touch, each is one part, and together they are the assembly. -/


namespace Go.Proofs.Ytkppijcjmhkkkaa
open Go.RowKit
/-- some tiles of an assembly, by their places -/
def subX (xs : List Pl) (f : Nat → Bool) : List Pl := ((List.range xs.length).filter f).map (plAt xs)
def nmX (xs : List Pl) : List Nat := (allP (nbP (xs.map plPt)) (xs.map plPt).length (xs.map plPt).length).1
def cntX (xs : List Pl) : Nat := (allP (nbP (xs.map plPt)) (xs.map plPt).length (xs.map plPt).length).2.length
/-- the tiles of part q, and of the parts before it -/
def isQ (xs : List Pl) (q v : Nat) : Bool := decide ((nmX xs)[v]? = some (q + 1))
def uptoQ (xs : List Pl) (q v : Nat) : Bool := decide (∃ c, (nmX xs)[v]? = some c ∧ 1 ≤ c ∧ c ≤ q)
theorem partsQ_get {xs : List Pl} {q : Nat} (h : q < cntX xs) : (partsQ xs)[q]? = some (subX xs (isQ xs q)) := by
  unfold partsQ partsN
  rw [List.getElem?_map, namesL_get (show q < (allP (nbP (xs.map plPt)) (xs.map plPt).length (xs.map plPt).length).2.length from h)]
  show some ((nameL _ q (xs.map plPt).length).map (plAt xs)) = _
  rw [List.length_map]
  unfold nameL subX isQ nmX
  rw [List.length_map]
theorem partsQ_cnt (xs : List Pl) : (partsQ xs).length = cntX xs := by
  unfold partsQ partsN namesL cntX; rw [List.length_map, List.length_map, List.length_range]
theorem subX_get {xs : List Pl} {f : Nat → Bool} {j v : Nat} (h : ((List.range xs.length).filter f)[j]? = some v) : ∃ e, xs[v]? = some e ∧ (subX xs f)[j]? = some e ∧ v < xs.length ∧ f v = true := by
  have hm := List.mem_of_getElem? h
  rw [List.mem_filter, List.mem_range] at hm
  obtain ⟨e, he⟩ : ∃ e, xs[v]? = some e := ⟨_, List.getElem?_eq_getElem hm.1⟩
  exact ⟨e, he, by unfold subX; rw [List.getElem?_map, h, Option.map_some, plAt_of he], hm.1, hm.2⟩
theorem subX_at {xs : List Pl} {f : Nat → Bool} {j : Nat} {e : Pl} (h : (subX xs f)[j]? = some e) : ∃ v, ((List.range xs.length).filter f)[j]? = some v ∧ xs[v]? = some e ∧ f v = true := by
  unfold subX at h
  rw [List.getElem?_map, Option.map_eq_some_iff] at h
  obtain ⟨v, hv, rfl⟩ := h
  obtain ⟨e, he, _, _, hf⟩ := subX_get hv
  exact ⟨v, hv, by rw [he, plAt_of he], hf⟩
theorem subX_mem {xs : List Pl} {f : Nat → Bool} {e : Pl} : e ∈ subX xs f ↔ ∃ v, xs[v]? = some e ∧ f v = true := by
  constructor
  · intro h
    obtain ⟨j, hj⟩ := List.getElem?_of_mem h
    obtain ⟨v, _, h1, h2⟩ := subX_at hj
    exact ⟨v, h1, h2⟩
  · rintro ⟨v, h1, h2⟩
    unfold subX
    rw [List.mem_map]
    exact ⟨v, by rw [List.mem_filter, List.mem_range]; exact ⟨(List.getElem?_eq_some_iff.1 h1).1, h2⟩, plAt_of h1⟩
theorem subX_len (xs : List Pl) (f : Nat → Bool) : (subX xs f).length ≤ xs.length := by
  unfold subX
  rw [List.length_map]
  have := List.length_filter_le f (List.range xs.length)
  simpa using this
theorem filt_lt {n : Nat} {f : Nat → Bool} {i j u v : Nat} (hij : i < j) (hu : ((List.range n).filter f)[i]? = some u) (hv : ((List.range n).filter f)[j]? = some v) : u < v := by
  have hp : ((List.range n).filter f).Pairwise (· < ·) := List.Pairwise.sublist List.filter_sublist List.pairwise_lt_range
  obtain ⟨hi, rfl⟩ := List.getElem?_eq_some_iff.1 hu
  obtain ⟨hj, rfl⟩ := List.getElem?_eq_some_iff.1 hv
  exact List.pairwise_iff_getElem.1 hp i j hi hj hij
theorem subX_form {xs : List Pl} (h : hasFormB xs = true) (f : Nat → Bool) : hasFormB (subX xs f) = true := by
  have hV := form_valid h
  have hf := h
  unfold hasFormB at hf
  simp only [Bool.and_eq_true, decide_eq_true_eq] at hf
  have hpl : ∀ (k : Nat) (e : Pl), xs[k]? = some e → validPt e.x e.y = true ∧ inB e.t 0 159 = true := fun k e he => by
    have := allB_at hf.1 (lt_of_get he)
    unfold okPl at this
    rw [he] at this
    simp only [Bool.and_eq_true] at this
    exact this.1
  refine hasFormB_ok (Nat.le_trans (subX_len xs f) hf.2) fun j hj => ?_
  obtain ⟨e, he⟩ : ∃ e, (subX xs f)[j]? = some e := ⟨_, List.getElem?_eq_getElem hj⟩
  obtain ⟨v, hv, hxv, _⟩ := subX_at he
  have hp := hpl v e hxv
  cases j with
  | zero =>
    unfold okPl
    rw [he]
    simp only [hp.1, hp.2, Bool.and_self]
  | succ j =>
    obtain ⟨d, hd⟩ : ∃ d, (subX xs f)[j]? = some d := ⟨_, List.getElem?_eq_getElem (by omega)⟩
    obtain ⟨u, hu, hxu, _⟩ := subX_at hd
    rw [okPl_eqS he hd, hp.1, hp.2, hV.sorted u v d e (filt_lt (Nat.lt_succ_self j) hu hv) hxu hxv]
    rfl
theorem subX_sorted {xs : List Pl} (h : hasFormB xs = true) (f : Nat → Bool) : SortPl (subX xs f) := sortPl_valid (form_valid (subX_form h f))
theorem subX_all {xs : List Pl} {f : Nat → Bool} (h : ∀ v, v < xs.length → f v = true) : subX xs f = xs := by
  unfold subX
  rw [List.filter_eq_self.2 (fun v hv => h v (List.mem_range.1 hv))]
  apply List.ext_getElem?
  intro j
  rw [List.getElem?_map]
  by_cases hj : j < xs.length
  · rw [List.getElem?_range hj, Option.map_some, plAt_of (List.getElem?_eq_getElem hj), List.getElem?_eq_getElem hj]
  · rw [List.getElem?_eq_none (by simp; omega), List.getElem?_eq_none (by omega)]
    rfl
theorem filt_perm {f g : Nat → Bool} : ∀ (l : List Nat), (∀ v ∈ l, f v = true → g v = false) → (l.filter f ++ l.filter g).Perm (l.filter fun v => f v || g v)
  | [], _ => List.Perm.refl _
  | a :: l, h => by
    have ih := filt_perm l (fun v hv => h v (List.mem_cons_of_mem _ hv))
    have ha := h a (List.mem_cons_self ..)
    cases hf : f a with
    | true =>
      have hg := ha hf
      simp only [List.filter_cons, hf, hg, Bool.or_false, if_true, if_false, Bool.false_eq_true, List.cons_append]
      exact ih.cons a
    | false =>
      cases hg : g a with
      | true =>
        simp only [List.filter_cons, hf, hg, Bool.false_or, if_true, if_false, Bool.false_eq_true]
        exact List.perm_middle.trans (ih.cons a)
      | false =>
        simp only [List.filter_cons, hf, hg, Bool.false_or, if_false, Bool.false_eq_true]
        exact ih
theorem subX_perm {xs : List Pl} {f g : Nat → Bool} (h : ∀ v, v < xs.length → f v = true → g v = false) : (subX xs f ++ subX xs g).Perm (subX xs fun v => f v || g v) := by
  unfold subX
  rw [← List.map_append]
  exact (filt_perm _ (fun v hv => h v (List.mem_range.1 hv))).map _
theorem subX_two {xs : List Pl} (hf : hasFormB xs = true) {f g : Nat → Bool} (h : ∀ v, v < xs.length → f v = true → g v = false) : Two [] noTiles (subX xs f) (subX xs g) := by
  have hV := form_valid (subX_form hf g)
  refine ⟨form_valid (subX_form hf f), subX_sorted hf g, fun k e he => ⟨(hV.pt k e he).1, (hV.pt k e he).2, hV.ti k e he⟩, fun j hj => ?_⟩
  obtain ⟨e, he⟩ : ∃ e, (subX xs g)[j]? = some e := ⟨_, List.getElem?_eq_getElem hj⟩
  rw [freeAt_eq he]
  apply decide_eq_true
  apply Classical.byContradiction
  intro hn
  obtain ⟨v, _, hv, hgv⟩ := subX_at he
  rcases placeI_cases (subX xs f) e.x e.y with h1 | ⟨k, h1, hk⟩
  · omega
  · obtain ⟨d, hd⟩ : ∃ d, (subX xs f)[k]? = some d := ⟨_, List.getElem?_eq_getElem hk⟩
    have hxy : d.x = e.x ∧ d.y = e.y := by
      rcases placeI_is (subX xs f) e.x e.y with ⟨h2, _⟩ | ⟨k2, d2, h2, h3, h4⟩
      · omega
      · obtain rfl : k2 = k := by omega
        rw [hd] at h3
        injection h3 with h3
        subst h3
        exact h4
    obtain ⟨u, _, hu, hfu⟩ := subX_at hd
    have huv : u = v := by
      have hS := form_shp hf
      have e1 : (xs.map plPt)[u]? = some (plPt e) := by rw [List.getElem?_map, hu]; show some (plPt d) = _; unfold plPt; rw [hxy.1, hxy.2]
      have e2 : (xs.map plPt)[v]? = some (plPt e) := by rw [List.getElem?_map, hv]; rfl
      exact hS.inj e1 e2
    subst huv
    rw [h u (List.getElem?_eq_some_iff.1 hu).1 hfu] at hgv
    cases hgv
/-- two sets of tiles that are apart join to both -/
theorem subX_join {xs : List Pl} (hf : hasFormB xs = true) {f g : Nat → Bool} (h : ∀ v, v < xs.length → f v = true → g v = false) : sortPl (subX xs f ++ subX xs g) = subX xs fun v => f v || g v := by
  have h2 := subX_two hf h
  refine List.Perm.eq_of_pairwise (le := fun a b => ltPl a b = true) ?_ (sortPl_strict h2.apart) (subX_sorted hf _) ((List.mergeSort_perm _ lePl).trans (subX_perm h))
  intro a b _ _ h1 h2
  rw [ltPl_iff] at h1 h2
  omega
theorem upto_is {xs : List Pl} (q v : Nat) (h1 : uptoQ xs q v = true) : isQ xs q v = false := by
  unfold uptoQ at h1
  unfold isQ
  obtain ⟨c, hc, h2, h3⟩ := of_decide_eq_true h1
  apply decide_eq_false
  intro h
  rw [hc] at h
  injection h with h
  omega
theorem upto_succ (xs : List Pl) (q : Nat) : (fun v => uptoQ xs q v || isQ xs q v) = uptoQ xs (q + 1) := by
  funext v
  unfold uptoQ isQ
  rw [Bool.eq_iff_iff]
  simp only [Bool.or_eq_true, decide_eq_true_eq]
  constructor
  · rintro (⟨c, h1, h2, h3⟩ | h)
    · exact ⟨c, h1, h2, by omega⟩
    · exact ⟨q + 1, h, by omega, by omega⟩
  · rintro ⟨c, h1, h2, h3⟩
    rcases Nat.lt_or_ge q c with h | h
    · exact .inr (by rw [h1]; congr 1; omega)
    · exact .inl ⟨c, h1, h2, h⟩
theorem upto_zero (xs : List Pl) : subX xs (uptoQ xs 0) = [] := by
  unfold subX
  rw [List.filter_eq_nil_iff.2, List.map_nil]
  intro v _ h
  obtain ⟨c, _, h2, h3⟩ := of_decide_eq_true h
  omega
theorem upto_all (xs : List Pl) : subX xs (uptoQ xs (cntX xs)) = xs := subX_all fun v hv => by
  have hv' : v < (xs.map plPt).length := by rw [List.length_map]; exact hv
  obtain ⟨q, h1, h2⟩ := allP_named (nb := nbP (xs.map plPt)) hv'
  exact decide_eq_true ⟨q + 1, h1, by omega, h2⟩
/-- the parts so far and the next one are the parts so far -/
theorem join_next {xs : List Pl} (hf : hasFormB xs = true) (q : Nat) : sortPl (subX xs (uptoQ xs q) ++ subX xs (isQ xs q)) = subX xs (uptoQ xs (q + 1)) := by
  rw [subX_join hf (fun v _ => upto_is q v), upto_succ]
theorem join_len {xs : List Pl} (hf : hasFormB xs = true) (q : Nat) : (subX xs (uptoQ xs (q + 1))).length = (subX xs (uptoQ xs q)).length + (subX xs (isQ xs q)).length := by
  rw [← join_next hf, sortPl_len, List.length_append]
theorem at_iff {xs : List Pl} (hf : hasFormB xs = true) (x y : Int) : 0 ≤ atI xs x y ↔ ∃ e ∈ xs, e.x = x ∧ e.y = y := by
  have hV := form_valid hf
  rcases atI_cases hV x y with ⟨h1, h2⟩ | ⟨k, t, e, h1, he, ht, hlt, h2⟩
  · rw [h2]
    constructor
    · intro h; omega
    · rintro ⟨e, he, hxy⟩
      exact absurd hxy (place_neg (by omega) e he)
  · rw [h2]
    refine ⟨fun _ => ?_, fun _ => by omega⟩
    rcases placeI_is xs x y with ⟨h3, _⟩ | ⟨k2, d, h3, hd, hxy⟩
    · omega
    · exact ⟨d, List.mem_of_getElem? hd, hxy⟩
/-- no tile outside a part touches it -/
theorem part_near {xs : List Pl} (hf : hasFormB xs = true) {q d : Nat} (hd : d < 4) {e : Pl} (he : e ∈ subX xs (isQ xs q)) : decide (0 ≤ atI (subX xs (isQ xs q)) (stepX e.x d) (stepY e.y d)) = decide (0 ≤ atI xs (stepX e.x d) (stepY e.y d)) := by
  rw [Bool.eq_iff_iff, decide_eq_true_eq, decide_eq_true_eq, at_iff (subX_form hf _), at_iff hf]
  constructor
  · rintro ⟨e2, h1, h2⟩
    obtain ⟨v, hv, _⟩ := subX_mem.1 h1
    exact ⟨e2, List.mem_of_getElem? hv, h2⟩
  · rintro ⟨e2, h1, h2⟩
    refine ⟨e2, ?_, h2⟩
    obtain ⟨u, hu⟩ := List.getElem?_of_mem h1
    obtain ⟨v, hv, hqv⟩ := subX_mem.1 he
    rw [subX_mem]
    refine ⟨u, hu, ?_⟩
    have hS := form_shp hf
    have hpv : (xs.map plPt)[v]? = some (plPt e) := by rw [List.getElem?_map, hv]; rfl
    have hpu : (xs.map plPt)[u]? = some ⟨stepX e.x d, stepY e.y d⟩ := by
      rw [List.getElem?_map, hu]
      show some (plPt e2) = _
      unfold plPt
      rw [h2.1, h2.2]
    have hnb : nbP (xs.map plPt) v d = some u := by
      unfold nbP
      rw [hpv]
      exact hS.idx hpu
    have := allP_near (nb := nbP (xs.map plPt)) (n := (xs.map plPt).length) (nbP_sym hS) _ v d u (q + 1) (Nat.succ_ne_zero _) (of_decide_eq_true hqv) hd hnb
    exact decide_eq_true this
/-- a part is one part -/
theorem part_one {xs : List Pl} (hf : hasFormB xs = true) {q : Nat} (hq : q < cntX xs) : (partsR (subX xs (isQ xs q))).length = 1 ∧ 0 < (subX xs (isQ xs q)).length := by
  have hS := form_shp hf
  have hfy := subX_form hf (isQ xs q)
  obtain ⟨ys, hys⟩ : ∃ ys, subX xs (isQ xs q) = ys := ⟨_, rfl⟩
  obtain ⟨L, hL⟩ : ∃ L, (List.range xs.length).filter (isQ xs q) = L := ⟨_, rfl⟩
  have hLm : ∀ v, v ∈ L ↔ (nmX xs)[v]? = some (q + 1) := fun v => by
    rw [← hL, List.mem_filter, List.mem_range]
    unfold isQ
    rw [decide_eq_true_eq]
    refine ⟨fun h => h.2, fun h => ⟨?_, h⟩⟩
    have := (List.getElem?_eq_some_iff.1 h).1
    unfold nmX at this
    rw [allP_len, List.length_map] at this
    exact this
  obtain ⟨l, hl⟩ : ∃ l, (allP (nbP (xs.map plPt)) (xs.map plPt).length (xs.map plPt).length).2[q]? = some l := ⟨_, List.getElem?_eq_getElem hq⟩
  obtain ⟨_, _, hlm⟩ := allP_mem _ q l hl
  obtain ⟨r, hr, hmin, hreach⟩ := allP_root _ q l hl
  have hml : ∀ v, v ∈ l ↔ v ∈ L := fun v => (hlm v).trans (hLm v).symm
  have hLget : ∀ {j v : Nat}, L[j]? = some v → ∃ e, xs[v]? = some e ∧ ys[j]? = some e := fun {j v} h => by
    rw [← hL] at h
    obtain ⟨e, h1, h2, _⟩ := subX_get h
    rw [hys] at h2
    exact ⟨e, h1, h2⟩
  have hLlen : L.length = ys.length := by rw [← hys, ← hL]; unfold subX; rw [List.length_map]
  have hLlt : ∀ {i j u v : Nat}, i < j → L[i]? = some u → L[j]? = some v → u < v := fun {i j u v} hij hu hv => by
    rw [← hL] at hu hv
    exact filt_lt hij hu hv
  obtain ⟨j0, hj0⟩ := List.getElem?_of_mem ((hml r).1 hr)
  have hpos : 0 < L.length := by have := (List.getElem?_eq_some_iff.1 hj0).1; omega
  have h00 : L[0]? = some r := by
    obtain ⟨x, hx⟩ : ∃ x, L[0]? = some x := ⟨_, List.getElem?_eq_getElem hpos⟩
    have h1 := hmin x ((hml x).2 (List.mem_of_getElem? hx))
    rcases Nat.eq_zero_or_pos j0 with h | h
    · subst h; exact hj0
    · have := hLlt h hx hj0
      omega
  rw [hys] at hfy ⊢
  refine ⟨?_, by omega⟩
  have hSy := form_shp hfy
  have hny : (ys.map plPt).length = L.length := by rw [List.length_map, hLlen]
  have hnb : ∀ {i j u v d : Nat}, L[i]? = some u → L[j]? = some v → nbP (xs.map plPt) u d = some v → nbP (ys.map plPt) i d = some j := fun {i j u v d} hu hv h => by
    obtain ⟨e, h1, h2⟩ := hLget hu
    obtain ⟨e2, h3, h4⟩ := hLget hv
    unfold nbP at h ⊢
    rw [List.getElem?_map, h1] at h
    rw [List.getElem?_map, h2]
    simp only [Option.map_some] at h ⊢
    have h5 := idxP_some h
    rw [List.getElem?_map, h3] at h5
    have h6 : (ys.map plPt)[j]? = some ⟨stepX (plPt e).x d, stepY (plPt e).y d⟩ := by rw [List.getElem?_map, h4]; exact h5
    exact hSy.idx h6
  have hone : (allP (nbP (ys.map plPt)) (ys.map plPt).length (ys.map plPt).length).2.length = 1 := by
    rw [hny]
    have hI := VisInv.start (n := L.length) (c := 1) (N0 := List.replicate L.length 0) (i := 0) (by decide) (List.length_replicate ..) (by rw [List.getElem?_replicate, if_pos hpos])
    refine allP_whole hpos fun k hk => ?_
    obtain ⟨v, hv⟩ : ∃ v, L[k]? = some v := ⟨_, List.getElem?_eq_getElem hk⟩
    obtain ⟨j, hj, hjm⟩ := hreach (fun u => ∃ j, L[j]? = some u ∧ j ∈ (visS (nbP (ys.map plPt)) 1 ([0], (List.replicate L.length 0).set 0 1) L.length).1) (fun u d w hu hd hw => by
      obtain ⟨j, hj, hjm⟩ := hu
      have hum := (hLm u).1 (List.mem_of_getElem? hj)
      have hwm := allP_near (nb := nbP (xs.map plPt)) (n := (xs.map plPt).length) (nbP_sym hS) _ u d w (q + 1) (Nat.succ_ne_zero _) hum hd hw
      obtain ⟨j2, hj2⟩ := List.getElem?_of_mem ((hLm w).2 hwm)
      exact ⟨j2, hj2, visS_closedP hI hjm hd (hnb hj hj2 hw) (by rw [List.getElem?_replicate, if_pos (List.getElem?_eq_some_iff.1 hj2).1])⟩) ⟨0, h00, visS_first _⟩ v ((hml v).2 (List.mem_of_getElem? hv))
    have hjk : j = k := by
      rcases Nat.lt_trichotomy j k with h | h | h
      · have := hLlt h hj hv; omega
      · exact h
      · have := hLlt h hv hj; omega
    rw [← hjk]
    exact hjm
  unfold partsR
  rw [if_pos hfy, partsQ_cnt]
  exact hone
end Go.Proofs.Ytkppijcjmhkkkaa
