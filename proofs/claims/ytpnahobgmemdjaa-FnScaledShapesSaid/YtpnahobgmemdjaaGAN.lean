import Derived.Test.YtpnahobgmemdjaaGAG
import Derived.Test.YtpnahobgmemdjaaGAL
import Derived.Test.YtpnahobgmemdjaaGAF
import Derived.Test.YtpnahobgmemdjaaGAD
import Derived.Lib.LazyBuf
import Derived.Lib.SliceRun
set_option linter.unusedSimpArgs false
set_option linter.unusedVariables false
/- Plain facts: bonds read from a row; flows. -/


namespace Go.Proofs.Ytpnahobgmemdjaa
open Go.RowKit
def RBd (w : World) (b o : Nat) (e : Bd) : Prop := w.cell? ⟨b, o, none⟩ = some (.int .i64 (e.a : Int)) ∧ w.cell? ⟨b, o + 1, none⟩ = some (.int .i64 (e.b : Int)) ∧ w.cell? ⟨b, o + 2, none⟩ = some (.int .i64 e.s)
theorem RBd.stable : Stable RBd := fun _ _ _ _ _ h hb hw =>
  ⟨(hw.cell (by exact hb)).trans h.1, (hw.cell (by exact hb)).trans h.2.1, (hw.cell (by exact hb)).trans h.2.2⟩
theorem bdCells_get : ∀ (bs : List Bd) (k : Nat) (e : Bd), bs[k]? = some e → (bdCells bs)[k * 3]? = some (.int .i64 (e.a : Int)) ∧ (bdCells bs)[k * 3 + 1]? = some (.int .i64 (e.b : Int)) ∧ (bdCells bs)[k * 3 + 2]? = some (.int .i64 e.s)
  | [], k, e, h => by simp at h
  | b :: bs, 0, e, h => by
    simp at h
    subst h
    simp [bdCells]
  | b :: bs, k + 1, e, h => by
    have := bdCells_get bs k e (by simpa using h)
    have h3 : (k + 1) * 3 = k * 3 + 1 + 1 + 1 := by omega
    rw [h3]
    simpa [bdCells, Nat.add_assoc] using this
theorem rd_of_row {W : World} {base : Nat} {T : TypeId} {v : Value} {bs : List Bd} (h : W.ownsRow base T 3 v bs.length (bdCells bs)) : ∃ A cap, v = .slice A bs.length cap ∧ RdSl 3 RBd W A bs.length bs := by
  rcases h.2 with ⟨rfl, h0⟩ | ⟨g, cap, cur, rfl, hb, hh, hn, hm, hs, ht⟩
  · exact ⟨none, 0, by rw [h0], rfl, fun hp => by omega⟩
  · refine ⟨_, cap, rfl, rfl, fun hp => ⟨g, 0, rfl, (Array.getElem?_eq_some_iff.1 hh).1, fun k hk => ?_⟩⟩
    have hg := bdCells_get bs k _ (List.getElem?_eq_getElem hk)
    rw [← ht] at hg
    have hcell : ∀ j u, (cur.toList.take (bs.length * 3))[j]? = some u → W.cell? ⟨g, j, none⟩ = some u := fun j u hj => by
      rw [List.getElem?_take] at hj
      split at hj
      · simp only [World.cell?, hh]
        simpa using hj
      · cases hj
    rw [Nat.zero_add]
    exact ⟨hcell _ _ hg.1, hcell _ _ hg.2.1, hcell _ _ hg.2.2⟩
/-- what has left place t behind k bonds -/
def leaf (bs : List Bd) (fl : List Int) (t : Nat) : Nat → Int
  | 0 => 0
  | k + 1 => match bs[k]?, fl[k]? with
    | some b, some f => (leaf bs fl t k + (if t = b.a then f else 0)) - (if t = b.b then f else 0)
    | _, _ => leaf bs fl t k
theorem leaf_succ {bs : List Bd} {fl : List Int} {t k : Nat} {b : Bd} {f : Int} (hb : bs[k]? = some b) (hf : fl[k]? = some f) : leaf bs fl t (k + 1) = (leaf bs fl t k + (if t = b.a then f else 0)) - (if t = b.b then f else 0) := by
  simp only [leaf, hb, hf]
def okFlow (bs : List Bd) (fl : List Int) (k : Nat) : Bool := match bs[k]?, fl[k]? with
  | some b, some f => inB f (-b.s) b.s
  | _, _ => true
theorem okFlow_eq {bs : List Bd} {fl : List Int} {k : Nat} {b : Bd} {f : Int} (hb : bs[k]? = some b) (hf : fl[k]? = some f) : okFlow bs fl k = inB f (-b.s) b.s := by
  simp only [okFlow, hb, hf]
def okLeaf (bs : List Bd) (fl : List Int) (x y : Int) (t : Nat) : Bool := decide (leaf bs fl t bs.length = 0) || (decide ((t : Int) = x) || decide ((t : Int) = y))
noncomputable def checkFlowR (gs : List Gl) (ts : List Ti) (xs : List Pl) (x y : Int) (fl : List Int) : Int × Int :=
  if cutCodeI (validAsmB gs ts xs) xs.length x y ≠ 0 then (0, cutCodeI (validAsmB gs ts xs) xs.length x y)
  else if fl.length ≠ (bondsL gs ts xs).length then (0, 10)
  else if allB (bondsL gs ts xs).length (okFlow (bondsL gs ts xs) fl) = false then (0, 10)
  else if allB xs.length (okLeaf (bondsL gs ts xs) fl x y) = false then (0, 10)
  else (leaf (bondsL gs ts xs) fl x.toNat (bondsL gs ts xs).length, 0)
theorem strI_le {gs : List Gl} {ts : List Ti} {xs : List Pl} (hV : Valid gs ts xs) (v : Int) : strI gs v ≤ 4 := by
  unfold strI
  split
  · decide
  · split
    · decide
    · rename_i g hg
      exact (hV.str _ _ hg).2
theorem bondI_le {gs : List Gl} {ts : List Ti} {xs : List Pl} (hV : Valid gs ts xs) (a d b : Nat) : bondI gs ts a d b ≤ 4 := by
  unfold bondI
  split
  · exact strI_le hV _
  · decide
theorem bondsL_at {gs : List Gl} {ts : List Ti} {xs : List Pl} (hV : Valid gs ts xs) {k : Nat} {b : Bd} (h : (bondsL gs ts xs)[k]? = some b) : b.a < xs.length ∧ b.b < xs.length ∧ 0 < b.s ∧ b.s ≤ 4 := by
  have hm := List.mem_of_getElem? h
  unfold bondsL bdL at hm
  obtain ⟨⟨⟨i, j, d⟩, hi, hj, hd⟩, _, hx⟩ := List.mem_filterMap.1 hm
  split at hx
  · rename_i hp
    obtain rfl := Option.some.inj hx
    exact ⟨hi, hj, hp, bondI_le hV _ _ _⟩
  · cases hx
theorem nb_ne {xs : List Pl} {i d : Nat} (hd : d < 4) {x : NbT xs} (h : x ∈ nb xs i d) : x.1.1 ≠ x.1.2.1 := by
  unfold nb at h
  cases he : xs[i]? with
  | none => simp only [he] at h; cases h
  | some e =>
    simp only [he] at h
    split at h
    · rename_i hh
      obtain rfl := List.mem_singleton.1 h
      intro heq
      dsimp only at heq
      rcases placeI_is xs (stepX e.x d) (stepY e.y d) with ⟨h1, _⟩ | ⟨k, e', h1, he', hx, hy⟩
      · omega
      · have hk : k = i := by omega
        rw [hk, he] at he'
        obtain rfl := Option.some.inj he'
        unfold stepX at hx
        unfold stepY at hy
        have : d = 0 ∨ d = 1 ∨ d = 2 ∨ d = 3 := by omega
        rcases this with rfl | rfl | rfl | rfl <;> simp at hx hy <;> omega
    · cases h
theorem nbAll_ne {xs : List Pl} {n : Nat} {x : NbT xs} (h : x ∈ nbAll xs n) : x.1.1 ≠ x.1.2.1 := by
  induction n with
  | zero => simp [nbAll] at h
  | succ n ih =>
    simp only [nbAll, List.mem_append] at h
    rcases h with h | h | h
    · exact ih h
    · exact nb_ne (by decide) h
    · exact nb_ne (by decide) h
theorem bondsL_ne {gs : List Gl} {ts : List Ti} {xs : List Pl} {k : Nat} {b : Bd} (h : (bondsL gs ts xs)[k]? = some b) : b.a ≠ b.b := by
  have hm := List.mem_of_getElem? h
  unfold bondsL bdL at hm
  obtain ⟨x, hx, hb⟩ := List.mem_filterMap.1 hm
  have := nbAll_ne hx
  split at hb
  · obtain rfl := Option.some.inj hb
    exact this
  · cases hb
theorem cutCodeI_zero {v : Bool} {n x y : Int} (h : cutCodeI v n x y = 0) : v = true ∧ (0 ≤ x ∧ x ≤ n - 1) ∧ (0 ≤ y ∧ y ≤ n - 1) ∧ x ≠ y := by
  unfold cutCodeI at h
  split at h
  · split at h
    · rename_i hv hc
      simp only [Bool.and_eq_true, inB_true, Bool.not_eq_true', beq_eq_false_iff_ne] at hc
      exact ⟨hv, hc.1, hc.2.1, hc.2.2⟩
    · cases h
  · cases h
theorem bondsL_len {gs : List Gl} {ts : List Ti} {xs : List Pl} (hV : Valid gs ts xs) : (bondsL gs ts xs).length ≤ 1000 := by
  have h1 := bdL_len gs ts (nbAll xs xs.length)
  have h2 := nbAll_len xs xs.length
  have h3 := hV.len
  unfold bondsL
  omega
theorem leaf_bound {bs : List Bd} {fl : List Int} {k : Nat} (hs : ∀ (j : Nat) (b : Bd), bs[j]? = some b → b.s ≤ 4) (h : ∀ j, j < k → okFlow bs fl j = true) (t : Nat) : -(8 * (k : Int)) ≤ leaf bs fl t k ∧ leaf bs fl t k ≤ 8 * (k : Int) := by
  induction k with
  | zero => simp [leaf]
  | succ k ih =>
    have ih := ih (fun j hj => h j (by omega))
    have hk := h k (by omega)
    cases hb : bs[k]? with
    | none => simp only [leaf, hb]; omega
    | some b =>
      cases hf : fl[k]? with
      | none => simp only [leaf, hb, hf]; omega
      | some f =>
        rw [leaf_succ hb hf]
        rw [okFlow_eq hb hf, inB_true] at hk
        have := hs k b hb
        split <;> split <;> omega
end Go.Proofs.Ytpnahobgmemdjaa
/- Small words: cells behind draws; what is asked of a set and an assembly. -/




namespace Go.Proofs.Ytpnahobgmemdjaa
open Go.RowKit
theorem BelowBy.cell_drew2 {W : World} (p : BelowBy W.drew.drew) (b o : Nat) (h : b < W.heap.size) : p.world.cell? ⟨b, o, none⟩ = W.cell? ⟨b, o, none⟩ := p.h.cell h
theorem BelowBy.cell_drew3 {W : World} (p : BelowBy W.drew.drew.drew) (b o : Nat) (h : b < W.heap.size) : p.world.cell? ⟨b, o, none⟩ = W.cell? ⟨b, o, none⟩ := p.h.cell h
theorem l00In_at {a b c : Int} {v : Bool} {w : World} (h : inB a b c = v) :
    Calls Try.prog 52 #[.int .i64 a, .int .i64 b, .int .i64 c] w fun e w' => e = .returned (.bool v) ∧ w = w' := by
  rw [← h]; exact l00In_any _ _ _ _
def ChkRes (w : World) (r : Int × Int) (e : Ending) (w' : World) : Prop := e = .returned (.tuple #[.int .i64 r.1, .int .i64 r.2]) ∧ Below w.heap.size w w'
theorem ChkRes.of {w : World} {r : Int × Int} {a b : Int} {w' : World} (h : (a, b) = r) (hb : Below w.heap.size w w') : ChkRes w r (.returned (.tuple #[.int .i64 a, .int .i64 b])) w' := by
  subst h; exact ⟨rfl, hb⟩
theorem wrap_in {n : Int} (h1 : -9000000000000000000 ≤ n) (h2 : n ≤ 9000000000000000000) : IntKind.i64.wrap n = n := by
  simp [IntKind.wrap, IntKind.bits, IntKind.signed]; omega
theorem within_at {a b c : Int} {v : Bool} {w : World} (h : inB a b c = v) :
    Calls Try.prog 49 #[.int .i64 a, .int .i64 b, .int .i64 c] w fun e w' => e = .returned (.bool v) ∧ w = w' := by
  rw [← h]; exact within_any _ _ _ _
end Go.Proofs.Ytpnahobgmemdjaa
/- Words on rows of placed tiles; such a row copied. -/




namespace Go.Proofs.Ytpnahobgmemdjaa
open Go.RowKit Go.Shelf
attribute [local go_sem] BelowBy.cell BelowBy.cell_drew stillUpon givesUpon BelowBy.cell_drew2 BelowBy.cell_drew3

def plCells : List Pl → List Value
  | [] => []
  | b :: l => .int .i64 b.x :: .int .i64 b.y :: .int .i64 b.t :: plCells l
theorem plCells_len (l : List Pl) : (plCells l).length = l.length * 3 := by
  induction l with
  | nil => rfl
  | cons b l ih => simp only [plCells, List.length_cons, ih]; omega
theorem plCells_snoc (l : List Pl) (b : Pl) : plCells (l ++ [b]) = plCells l ++ [.int .i64 b.x, .int .i64 b.y, .int .i64 b.t] := by
  induction l with
  | nil => rfl
  | cons a l ih => simp [plCells, ih]
theorem plCells_one (bs : List Pl) : ∀ u ∈ plCells bs, u.oneCell' = true := by
  induction bs with
  | nil => simp [plCells]
  | cons b l ih =>
    intro u hu
    simp only [plCells, List.mem_cons] at hu
    rcases hu with rfl | rfl | rfl | hu
    · rfl
    · rfl
    · rfl
    · exact ih u hu
theorem plCells_get : ∀ (bs : List Pl) (k : Nat) (e : Pl), bs[k]? = some e → (plCells bs)[k * 3]? = some (.int .i64 e.x) ∧ (plCells bs)[k * 3 + 1]? = some (.int .i64 e.y) ∧ (plCells bs)[k * 3 + 2]? = some (.int .i64 e.t)
  | [], k, e, h => by simp at h
  | b :: bs, 0, e, h => by
    simp at h
    subst h
    simp [plCells]
  | b :: bs, k + 1, e, h => by
    have := plCells_get bs k e (by simpa using h)
    have h3 : (k + 1) * 3 = k * 3 + 1 + 1 + 1 := by omega
    rw [h3]
    simpa [plCells, Nat.add_assoc] using this
theorem plCells_set : ∀ (bs : List Pl) (k : Nat) (e : Pl) (x y : Int), bs[k]? = some e → ((plCells bs).set (k * 3) (.int .i64 x)).set (k * 3 + 1) (.int .i64 y) = plCells (bs.set k ⟨x, y, e.t⟩)
  | [], k, e, x, y, h => by simp at h
  | b :: bs, 0, e, x, y, h => by
    simp at h
    subst h
    simp [plCells]
  | b :: bs, k + 1, e, x, y, h => by
    have := plCells_set bs k e x y (by simpa using h)
    have h3 : (k + 1) * 3 = k * 3 + 1 + 1 + 1 := by omega
    rw [h3]
    simpa [plCells, Nat.add_assoc] using this
theorem plCells_of_rd {w : World} {b o : Nat} {xs : List Pl} (h : ∀ k e, xs[k]? = some e → RPl w b (o + k * 3) e) : ∀ j u, (plCells xs)[j]? = some u → w.cell? ((⟨b, o, none⟩ : Addr).add j) = some u := by
  intro j u hj
  have hlt := (List.getElem?_eq_some_iff.1 hj).1
  rw [plCells_len] at hlt
  obtain ⟨k, hk⟩ : ∃ k, j / 3 = k := ⟨_, rfl⟩
  obtain ⟨e, he⟩ : ∃ e, xs[k]? = some e := ⟨_, List.getElem?_eq_getElem (by omega)⟩
  obtain ⟨g0, g1, g2⟩ := plCells_get xs _ e he
  obtain ⟨c0, c1, c2⟩ := h _ e he
  rw [Addr.add_lit]
  have : j = k * 3 ∨ j = k * 3 + 1 ∨ j = k * 3 + 2 := by omega
  rcases this with rfl | rfl | rfl
  · rw [← Option.some.inj (g0.symm.trans hj)]; exact c0
  · rw [← Option.some.inj (g1.symm.trans hj), ← Nat.add_assoc]; exact c1
  · rw [← Option.some.inj (g2.symm.trans hj), ← Nat.add_assoc]; exact c2
theorem rdP_of_row {W : World} {base : Nat} {T : TypeId} {v : Value} {bs : List Pl} (h : W.ownsRow base T 3 v bs.length (plCells bs)) : ∃ A cap, v = .slice A bs.length cap ∧ RdSl 3 RPl W A bs.length bs := by
  rcases h.2 with ⟨rfl, h0⟩ | ⟨g, cap, cur, rfl, hb, hh, hn, hm, hs, ht⟩
  · exact ⟨none, 0, by rw [h0], rfl, fun hp => by omega⟩
  · refine ⟨_, cap, rfl, rfl, fun hp => ⟨g, 0, rfl, (Array.getElem?_eq_some_iff.1 hh).1, fun k hk => ?_⟩⟩
    have hg := plCells_get bs k _ (List.getElem?_eq_getElem hk)
    rw [← ht] at hg
    have hcell : ∀ j u, (cur.toList.take (bs.length * 3))[j]? = some u → W.cell? ⟨g, j, none⟩ = some u := fun j u hj => by
      rw [List.getElem?_take] at hj
      split at hj
      · simp only [World.cell?, hh]
        simpa using hj
      · cases hj
    rw [Nat.zero_add]
    exact ⟨hcell _ _ hg.1, hcell _ _ hg.2.1, hcell _ _ hg.2.2⟩
def OwnPl (w : World) (bs : List Pl) (e : Ending) (w' : World) : Prop := ∃ v, e = .returned v ∧ w'.ownsRow w.heap.size 38 3 v bs.length (plCells bs) ∧ Below w.heap.size w w'
set_option maxRecDepth 100000 in
set_option maxHeartbeats 1000000 in
theorem CloneP_any (A : Option Addr) (n c : Nat) (bs : List Pl) (w : World) (h : RdSl 3 RPl w A n bs) (hn : n ≤ 100000) :
    Calls Try.prog 73 #[.slice A n c] w (OwnPl w bs) := by
  obtain ⟨i0, hi, hz0, hz1, hz2⟩ := info_parts infoPl
  have hl := h.len
  have hq := fun W => Lib.run_eql_slice_nil (P := Try.prog) W 24 38 A n c 0 0 Try.underlying24
  cases A with
  | none =>
    have h0 : n = 0 := by
      rcases Nat.eq_zero_or_pos n with h0 | h0
      · exact h0
      · obtain ⟨b, o, e, _⟩ := h.cells h0; cases e
    subst h0
    have hb : bs = [] := List.eq_nil_of_length_eq_zero hl
    subst hb
    clear h
    go_enter Try.func73, Try.ntmps73
    go_wp2
    go_ret
    exact ⟨_, rfl, World.ownsRow_nil _ _ _ _, bl_refl _⟩
  | some ad =>
    have hcl : (∀ (ob : Obj) j u, (plCells bs)[j]? = some u → (w.alloc ob).cell? (ad.add j) = some u) := fun ob j u hj => by
      have hlt := (List.getElem?_eq_some_iff.1 hj).1
      rw [plCells_len] at hlt
      obtain ⟨b, o, e, hb, hc⟩ := h.ptr (by omega)
      injection e with e
      subst e
      refine Eq.trans (World.cell?_alloc_lt _ _ _ ?_) (plCells_of_rd hc j u hj)
      rw [Addr.add_lit]; exact hb
    have hclH := Lib.hid hcl
    have hlH := Lib.hid hl
    have hlen := plCells_len bs
    rw [hl] at hlen
    have hlenH := Lib.hid hlen
    clear h hl hcl hlen
    go_enter Try.func73, Try.ntmps73
    go_wp2_with (at_builtin; go_loud (refine wpList_append_own _ rfl _ _ 24 rfl w.heap.size 38 i0 (.agg #[.int .i64 0, .int .i64 0, .int .i64 0]) 3 24 Try.underlying24 hi hz0 hz1 hz2 rfl (by decide) _ 0 [] rfl (World.ownsRow_made _ _ _ (Nat.le_refl _) (by decide) rfl) ad n c (plCells bs) rfl hlenH.out (fun j u hj => hclH.out _ j u hj) (plCells_one bs) (by unfold maxLen; omega) (by omega) (by simp) ?_); intro v' w3 hown' hgrow _)
    go_ret
    refine ⟨_, rfl, ?_, ((Below.refl w.heap.size w).alloc (Nat.le_refl _) _).grown hgrow (by simp) (fun b' hb' => ?_)⟩
    · rw [hlH.out]
      simpa using hown'
    · have hb2 : some w.heap.size = some b' := hb'
      injection hb2 with hb3
      exact Nat.le_of_eq hb3
end Go.Proofs.Ytpnahobgmemdjaa
