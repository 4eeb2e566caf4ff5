/- Rows of rows: how they read, and the harness' marks on them. -/
import Derived.Test.YtpnahobgmemdjaaN1
import Derived.Test.YtpnahobgmemdjaaKH
namespace Go.Proofs.Ytpnahobgmemdjaa
open Go.RowKit
set_option linter.unusedSimpArgs false
set_option linter.unusedVariables false
/-- an element that is a slice, which reads as xs -/
def RRow {α : Type} (size : Nat) (R : World → Nat → Nat → α → Prop) (w : World) (b o : Nat) (xs : List α) : Prop := ∃ A n c, w.cell? ⟨b, o, none⟩ = some (.slice A n c) ∧ RdSl size R w A n xs
theorem RRow.stable {α : Type} {size : Nat} {R : World → Nat → Nat → α → Prop} (hR : Stable R) : Stable (RRow size R) := fun _ _ _ _ _ ⟨A, n, c, h1, h2⟩ hb hw => ⟨A, n, c, (hw.cell (by exact hb)).trans h1, h2.below hR hw⟩
theorem sum_take_succ : ∀ (ns : List Nat) (i n : Nat), ns[i]? = some n → (ns.take (i + 1)).sum = (ns.take i).sum + n
  | [], i, n, h => by simp at h
  | a :: ns, 0, n, h => by
    simp at h
    subst h
    simp
  | a :: ns, i + 1, n, h => by
    have := sum_take_succ ns i n (by simpa using h)
    simp only [List.take_succ_cons, List.sum_cons]
    omega
theorem sum_take_le : ∀ (ns : List Nat) (i : Nat), (ns.take i).sum ≤ ns.sum
  | [], i => by simp
  | a :: ns, 0 => by simp
  | a :: ns, i + 1 => by
    have := sum_take_le ns i
    simp only [List.take_succ_cons, List.sum_cons]
    omega
theorem sum_le_mul : ∀ (ns : List Nat) (m : Nat), (∀ n ∈ ns, n ≤ m) → ns.sum ≤ ns.length * m
  | [], m, _ => by simp
  | a :: ns, m, h => by
    have h1 := sum_le_mul ns m (fun n hn => h n (List.mem_cons_of_mem _ hn))
    have h2 := h a (List.mem_cons_self ..)
    simp only [List.sum_cons, List.length_cons, Nat.add_mul, Nat.one_mul]
    omega
/-- rows of rows of the call's own, no two in one block: what the cells hold is left open -/
structure NRows (T size lo hi : Nat) (w : World) (A : Option Addr) (us : List Value) (ns : List Nat) : Prop where
  len : us.length = ns.length
  outer : 0 < us.length → ∃ g, A = some ⟨g, 0, none⟩ ∧ lo ≤ g ∧ g < hi ∧ g < w.heap.size ∧ ∀ (j : Nat) (u : Value), us[j]? = some u → w.cell? ⟨g, j, none⟩ = some u
  rows : ∀ (j : Nat) (u : Value) (n : Nat), us[j]? = some u → ns[j]? = some n → ∃ A' c, u = .slice A' n c ∧ MkRow T size lo hi w A' n
  apart : ∀ (j k : Nat) (u u' : Value) (g : Nat), us[j]? = some u → us[k]? = some u' → u.ownBlock = some g → u'.ownBlock = some g → j = k
  off : ∀ (k : Nat) (u : Value) (g g' : Nat), us[k]? = some u → u.ownBlock = some g → A = some ⟨g', 0, none⟩ → g ≠ g'
theorem NRows.of {w : World} {base TT T size n c : Nat} {A : Option Addr} {us : List Value} {rows : List (List Value)} {ns : List Nat} (h : Own2 w base TT T size (.slice A n c) us rows) (hs : 0 < size) (hl : ns.length = rows.length)
    (hr : ∀ (j : Nat) (r : List Value) (m : Nat), rows[j]? = some r → ns[j]? = some m → r.length = m * size) : NRows T size base w.heap.size w A us ns := by
  refine ⟨by rw [h.len, hl], fun hp => ?_, fun j u m hu hm => ?_, h.apart, fun k u g g' hu hb e hg => ?_⟩
  · obtain ⟨g, cap, hv⟩ := h.formPos rfl hp
    injection hv with h1 h2 h3
    subst h1 h2 h3
    obtain ⟨hl1, hl2⟩ := h.lt g rfl
    exact ⟨g, rfl, hl1, hl2, hl2, fun j u hu => (h.cellAt rfl hu).1⟩
  · obtain ⟨m', r, hr', hown⟩ := h.get hu
    have h1 := hr j r m hr' hm
    have h2 := hown.1
    rw [h1] at h2
    obtain rfl : m = m' := Nat.eq_of_mul_eq_mul_right hs h2
    obtain ⟨A', c', rfl⟩ := ownsRow_form hown
    exact ⟨A', c', rfl, mkRow_of_owns hown⟩
  · refine h.off k u g hu hb ?_
    rw [e]
    subst hg
    rfl
theorem NRows.keep {T size lo hi : Nat} {w w' : World} {A : Option Addr} {us : List Value} {ns : List Nat} (h : NRows T size lo hi w A us ns) (hs : w.heap.size ≤ w'.heap.size) (hk : ∀ k, lo ≤ k → k < hi → w'.heap[k]? = w.heap[k]?) : NRows T size lo hi w' A us ns := by
  refine ⟨h.len, fun hp => ?_, fun j u m hu hm => ?_, h.apart, h.off⟩
  · obtain ⟨g, h1, h2, h3, h4, h5⟩ := h.outer hp
    exact ⟨g, h1, h2, h3, by omega, fun j u hu => (World.cell?_of_block (w := w) (a := ⟨g, j, none⟩) (hk g h2 h3)).trans (h5 j u hu)⟩
  · obtain ⟨A', c', h1, h2⟩ := h.rows j u m hu hm
    exact ⟨A', c', h1, h2.keep hk⟩
theorem NRows.below {T size lo hi : Nat} {w w' : World} {A : Option Addr} {us : List Value} {ns : List Nat} (h : NRows T size lo hi w A us ns) (hb : Below w.heap.size w w') (hh : hi ≤ w.heap.size) : NRows T size lo hi w' A us ns := h.keep hb.size fun k _ h2 => hb.block k (by omega)
theorem NRows.mkd {T size lo hi lo' hi' : Nat} {w w' : World} {A : Option Addr} {us : List Value} {ns : List Nat} (h : NRows T size lo hi w A us ns) (hb : Mk lo' hi' w w') (h1 : hi' ≤ lo) (hh : hi ≤ w.heap.size) : NRows T size lo hi w' A us ns := h.keep hb.size fun k h2 h3 => hb.keep k (by omega) (by omega)
/-- the rows before row i bear their marks -/
def NMarked (T size lo hi : Nat) (w : World) (us : List Value) (ns : List Nat) (k i : Nat) : Prop := ∀ (j : Nat) (u : Value) (n : Nat), j < i → us[j]? = some u → ns[j]? = some n → ∃ A' c, u = .slice A' n c ∧ Marked T size lo hi w A' n (k + size * (ns.take j).sum)
theorem NMarked.zero (T size lo hi : Nat) (w : World) (us : List Value) (ns : List Nat) (k : Nat) : NMarked T size lo hi w us ns k 0 := fun j u n h => by omega
/-- one row gets its marks -/
theorem NRows.marked {T size lo hi k i n c g : Nat} {w w' : World} {A : Option Addr} {us : List Value} {ns : List Nat} (h : NRows T size lo hi w A us ns) (hm : NMarked T size lo hi w us ns k i) (hu : us[i]? = some (.slice (some ⟨g, 0, none⟩) n c)) (hn : ns[i]? = some n) (hk : Mk g (g + 1) w w')
    (hr : Marked T size lo hi w' (some ⟨g, 0, none⟩) n (k + size * (ns.take i).sum)) (hrow : MkRow T size lo hi w' (some ⟨g, 0, none⟩) n) : NRows T size lo hi w' A us ns ∧ NMarked T size lo hi w' us ns k (i + 1) := by
  have hb : ∀ b, b ≠ g → b < w.heap.size → w'.heap[b]? = w.heap[b]? := fun b hb hlt => by
    rcases Nat.lt_or_ge b g with h1 | h1
    · exact hk.below.block b h1
    · exact hk.keep b (by omega) hlt
  refine ⟨⟨h.len, fun hp => ?_, fun j u m hu' hm' => ?_, h.apart, h.off⟩, fun j u m hj hu' hm' => ?_⟩
  · obtain ⟨g', h1, h2, h3, h4, h5⟩ := h.outer hp
    have hne : g' ≠ g := fun e => h.off i _ g g' hu rfl h1 e.symm
    exact ⟨g', h1, h2, h3, Nat.lt_of_lt_of_le h4 hk.size, fun j u hj => (World.cell?_of_block (w := w) (a := ⟨g', j, none⟩) (hb g' hne h4)).trans (h5 j u hj)⟩
  · by_cases e : j = i
    · subst e
      rw [hu] at hu'
      rw [hn] at hm'
      obtain rfl := Option.some.inj hu'
      obtain rfl := Option.some.inj hm'
      exact ⟨_, c, rfl, hrow⟩
    · obtain ⟨A', c', rfl, h2⟩ := h.rows j u m hu' hm'
      refine ⟨A', c', rfl, fun h0 => ?_⟩
      obtain ⟨b, N, f, rfl, b2, b3, b4, b5⟩ := h2 h0
      have hne : b ≠ g := fun e' => e (h.apart j i _ _ b hu' hu rfl (by rw [e']; rfl))
      exact ⟨b, N, f, rfl, b2, b3, b4.of_block (hb b hne b4.lt), b5⟩
  · by_cases e : j = i
    · subst e
      rw [hu] at hu'
      rw [hn] at hm'
      obtain rfl := Option.some.inj hu'
      obtain rfl := Option.some.inj hm'
      exact ⟨_, c, rfl, hr⟩
    · obtain ⟨A', c', rfl, h2⟩ := hm j u m (by omega) hu' hm'
      refine ⟨A', c', rfl, fun h0 => ?_⟩
      obtain ⟨b, N, f, rfl, b2, b3, b4, b5, b6⟩ := h2 h0
      have hne : b ≠ g := fun e' => e (h.apart j i _ _ b hu' hu rfl (by rw [e']; rfl))
      exact ⟨b, N, f, rfl, b2, b3, b4.of_block (hb b hne b4.lt), b5, b6⟩
theorem NMarked.empty {T size lo hi k i c : Nat} {w : World} {us : List Value} {ns : List Nat} {A' : Option Addr} (hm : NMarked T size lo hi w us ns k i) (hu : us[i]? = some (.slice A' 0 c)) (hn : ns[i]? = some 0) : NMarked T size lo hi w us ns k (i + 1) := fun j u m hj hu' hm' => by
  by_cases e : j = i
  · subst e
    rw [hu] at hu'
    rw [hn] at hm'
    obtain rfl := Option.some.inj hu'
    obtain rfl := Option.some.inj hm'
    exact ⟨_, c, rfl, fun h => by omega⟩
  · exact hm j u m (by omega) hu' hm'
/-- all rows bear their marks -/
structure Marked2 (T size lo hi : Nat) (w : World) (A : Option Addr) (us : List Value) (ns : List Nat) (k : Nat) : Prop where
  rows : NRows T size lo hi w A us ns
  marks : NMarked T size lo hi w us ns k us.length
theorem Marked2.keep {T size lo hi k : Nat} {w w' : World} {A : Option Addr} {us : List Value} {ns : List Nat} (h : Marked2 T size lo hi w A us ns k) (hs : w.heap.size ≤ w'.heap.size) (hk : ∀ k, lo ≤ k → k < hi → w'.heap[k]? = w.heap[k]?) : Marked2 T size lo hi w' A us ns k :=
  ⟨h.rows.keep hs hk, fun j u n hj hu hn => by
    obtain ⟨A', c, h1, h2⟩ := h.marks j u n hj hu hn
    exact ⟨A', c, h1, h2.keep hk⟩⟩
theorem Marked2.below {T size lo hi k : Nat} {w w' : World} {A : Option Addr} {us : List Value} {ns : List Nat} (h : Marked2 T size lo hi w A us ns k) (hb : Below w.heap.size w w') (hh : hi ≤ w.heap.size) : Marked2 T size lo hi w' A us ns k := h.keep hb.size fun k _ h2 => hb.block k (by omega)
def MkResN (T size lo hi : Nat) (A : Option Addr) (us : List Value) (ns : List Nat) (k : Nat) (w : World) (e : Ending) (w' : World) : Prop := e = .returned (.int .i64 ((k + size * ns.sum : Nat) : Int)) ∧ Mk lo hi w w' ∧ Marked2 T size lo hi w' A us ns k
theorem Own2.mkd {w w' : World} {base lo hi T E size : Nat} {v : Value} {us : List Value} {rows : List (List Value)} (h : Own2 w base T E size v us rows) (hm : Mk lo hi w w') (hl : hi ≤ base) : Own2 w' base T E size v us rows := by
  have hd : ∀ {e s x n xs}, w.ownsRow base e s x n xs → w'.ownsRow base e s x n xs := fun h => ⟨h.1, h.2.imp id (fun ⟨g, cap, cur, h1, h2, h3, h4⟩ => ⟨g, cap, cur, h1, h2, (hm.keep g (by omega) (Array.getElem?_eq_some_iff.1 h3).1).trans h3, h4⟩)⟩
  exact ⟨hd h.outer, h.len, fun k u r hu hr => (h.inner k u r hu hr).imp fun n hn => hd hn, h.apart, h.off⟩
/-- how they read -/
theorem Own2.rd {α : Type} {size : Nat} {R : World → Nat → Nat → α → Prop} {w : World} {base TT T n c : Nat} {A : Option Addr} {us : List Value} {cells : List α → List Value} {xss : List (List α)} (h : Own2 w base TT T size (.slice A n c) us (xss.map cells)) (hn : n = xss.length)
    (hrd : ∀ (u : Value) (m : Nat) (xs : List α), xs ∈ xss → w.ownsRow base T size u m (cells xs) → ∃ A' n' c', u = .slice A' n' c' ∧ RdSl size R w A' n' xs) : RdSl 1 (RRow size R) w A n xss := by
  have hul : us.length = n := by rw [h.len, hn]; simp
  refine ⟨hn.symm, fun hp => ?_⟩
  obtain ⟨g, cap, hv⟩ := h.formPos hul hp
  injection hv with h1 h2 h3
  subst h1 h3
  refine ⟨g, 0, rfl, (h.lt g rfl).2, fun k hk => ?_⟩
  obtain ⟨u, hu⟩ : ∃ u, us[k]? = some u := ⟨_, List.getElem?_eq_getElem (by omega)⟩
  obtain ⟨m, r, hr, hown⟩ := h.get hu
  rw [List.getElem?_map, List.getElem?_eq_getElem hk] at hr
  simp only [Option.map_some, Option.some.injEq] at hr
  subst hr
  obtain ⟨A', n', c', rfl, hr'⟩ := hrd u m _ (List.getElem_mem hk) hown
  refine ⟨A', n', c', ?_, hr'⟩
  have hc := (h.cellAt hul hu).1
  rwa [show (0 : Nat) + k * 1 = k by omega]
end Go.Proofs.Ytpnahobgmemdjaa
