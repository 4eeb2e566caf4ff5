import Derived.Test.YtmhgjgclclnmaaaGreatN1
import Derived.Test.YtmhgjgclclnmaaaGreatKH
import Derived.Test.YtmhgjgclclnmaaaGreatHEq
import Derived.Test.YtmhgjgclclnmaaaGreatXBase2
import Derived.OneCell
import Derived.Test.YtmhgjgclclnmaaaGreatKU
set_option linter.unusedSimpArgs false
set_option linter.unusedVariables false
/- Rows of rows: how they read, and the harness' marks on them. -/


namespace Go.Proofs.YtmhgjgclclnmaaaGreat
open Go.RowKit
/-- an element that is a slice, which reads as xs -/
def RRow {α : Type} (size : Nat) (R : World → Nat → Nat → α → Prop) (w : World) (b o : Nat) (xs : List α) : Prop := ∃ A n c, w.cell? ⟨b, o, none⟩ = some (.slice A n c) ∧ RdSl size R w A n xs
theorem RRow.stable {α : Type} {size : Nat} {R : World → Nat → Nat → α → Prop} (hR : Stable R) : Stable (RRow size R) := fun _ _ _ _ _ ⟨A, n, c, h1, h2⟩ hb hw => ⟨A, n, c, (hw.cell (by exact hb)).trans h1, h2.below hR hw⟩
theorem sum_take_succ : ∀ (ns : List Nat) (i n : Nat), ns[i]? = some n → (ns.take (i + 1)).sum = (ns.take i).sum + n
  | [], i, n, h => by simp at h
  | a :: ns, 0, n, h => by
    simp at h
    subst h
    simp
  | a :: ns, i + 1, n, h => by
    have := sum_take_succ ns i n (by simpa using h)
    simp only [List.take_succ_cons, List.sum_cons]
    omega
theorem sum_take_le : ∀ (ns : List Nat) (i : Nat), (ns.take i).sum ≤ ns.sum
  | [], i => by simp
  | a :: ns, 0 => by simp
  | a :: ns, i + 1 => by
    have := sum_take_le ns i
    simp only [List.take_succ_cons, List.sum_cons]
    omega
theorem sum_le_mul : ∀ (ns : List Nat) (m : Nat), (∀ n ∈ ns, n ≤ m) → ns.sum ≤ ns.length * m
  | [], m, _ => by simp
  | a :: ns, m, h => by
    have h1 := sum_le_mul ns m (fun n hn => h n (List.mem_cons_of_mem _ hn))
    have h2 := h a (List.mem_cons_self ..)
    simp only [List.sum_cons, List.length_cons, Nat.add_mul, Nat.one_mul]
    omega
/-- rows of rows of the call's own, no two in one block: what the cells hold is left open -/
structure NRows (T size lo hi : Nat) (w : World) (A : Option Addr) (us : List Value) (ns : List Nat) : Prop where
  len : us.length = ns.length
  outer : 0 < us.length → ∃ g, A = some ⟨g, 0, none⟩ ∧ lo ≤ g ∧ g < hi ∧ g < w.heap.size ∧ ∀ (j : Nat) (u : Value), us[j]? = some u → w.cell? ⟨g, j, none⟩ = some u
  rows : ∀ (j : Nat) (u : Value) (n : Nat), us[j]? = some u → ns[j]? = some n → ∃ A' c, u = .slice A' n c ∧ MkRow T size lo hi w A' n
  apart : ∀ (j k : Nat) (u u' : Value) (g : Nat), us[j]? = some u → us[k]? = some u' → u.ownBlock = some g → u'.ownBlock = some g → j = k
  off : ∀ (k : Nat) (u : Value) (g g' : Nat), us[k]? = some u → u.ownBlock = some g → A = some ⟨g', 0, none⟩ → g ≠ g'
theorem NRows.of {w : World} {base TT T size n c : Nat} {A : Option Addr} {us : List Value} {rows : List (List Value)} {ns : List Nat} (h : Own2 w base TT T size (.slice A n c) us rows) (hs : 0 < size) (hl : ns.length = rows.length)
    (hr : ∀ (j : Nat) (r : List Value) (m : Nat), rows[j]? = some r → ns[j]? = some m → r.length = m * size) : NRows T size base w.heap.size w A us ns := by
  refine ⟨by rw [h.len, hl], fun hp => ?_, fun j u m hu hm => ?_, h.apart, fun k u g g' hu hb e hg => ?_⟩
  · obtain ⟨g, cap, hv⟩ := h.formPos rfl hp
    injection hv with h1 h2 h3
    subst h1 h2 h3
    obtain ⟨hl1, hl2⟩ := h.lt g rfl
    exact ⟨g, rfl, hl1, hl2, hl2, fun j u hu => (h.cellAt rfl hu).1⟩
  · obtain ⟨m', r, hr', hown⟩ := h.get hu
    have h1 := hr j r m hr' hm
    have h2 := hown.1
    rw [h1] at h2
    obtain rfl : m = m' := Nat.eq_of_mul_eq_mul_right hs h2
    obtain ⟨A', c', rfl⟩ := ownsRow_form hown
    exact ⟨A', c', rfl, mkRow_of_owns hown⟩
  · refine h.off k u g hu hb ?_
    rw [e]
    subst hg
    rfl
theorem NRows.keep {T size lo hi : Nat} {w w' : World} {A : Option Addr} {us : List Value} {ns : List Nat} (h : NRows T size lo hi w A us ns) (hs : w.heap.size ≤ w'.heap.size) (hk : ∀ k, lo ≤ k → k < hi → w'.heap[k]? = w.heap[k]?) : NRows T size lo hi w' A us ns := by
  refine ⟨h.len, fun hp => ?_, fun j u m hu hm => ?_, h.apart, h.off⟩
  · obtain ⟨g, h1, h2, h3, h4, h5⟩ := h.outer hp
    exact ⟨g, h1, h2, h3, by omega, fun j u hu => (World.cell?_of_block (w := w) (a := ⟨g, j, none⟩) (hk g h2 h3)).trans (h5 j u hu)⟩
  · obtain ⟨A', c', h1, h2⟩ := h.rows j u m hu hm
    exact ⟨A', c', h1, h2.keep hk⟩
theorem NRows.below {T size lo hi : Nat} {w w' : World} {A : Option Addr} {us : List Value} {ns : List Nat} (h : NRows T size lo hi w A us ns) (hb : Below w.heap.size w w') (hh : hi ≤ w.heap.size) : NRows T size lo hi w' A us ns := h.keep hb.size fun k _ h2 => hb.block k (by omega)
theorem NRows.mkd {T size lo hi lo' hi' : Nat} {w w' : World} {A : Option Addr} {us : List Value} {ns : List Nat} (h : NRows T size lo hi w A us ns) (hb : Mk lo' hi' w w') (h1 : hi' ≤ lo) (hh : hi ≤ w.heap.size) : NRows T size lo hi w' A us ns := h.keep hb.size fun k h2 h3 => hb.keep k (by omega) (by omega)
/-- the rows before row i bear their marks -/
def NMarked (T size lo hi : Nat) (w : World) (us : List Value) (ns : List Nat) (k i : Nat) : Prop := ∀ (j : Nat) (u : Value) (n : Nat), j < i → us[j]? = some u → ns[j]? = some n → ∃ A' c, u = .slice A' n c ∧ Marked T size lo hi w A' n (k + size * (ns.take j).sum)
theorem NMarked.zero (T size lo hi : Nat) (w : World) (us : List Value) (ns : List Nat) (k : Nat) : NMarked T size lo hi w us ns k 0 := fun j u n h => by omega
/-- one row gets its marks -/
theorem NRows.marked {T size lo hi k i n c g : Nat} {w w' : World} {A : Option Addr} {us : List Value} {ns : List Nat} (h : NRows T size lo hi w A us ns) (hm : NMarked T size lo hi w us ns k i) (hu : us[i]? = some (.slice (some ⟨g, 0, none⟩) n c)) (hn : ns[i]? = some n) (hk : Mk g (g + 1) w w')
    (hr : Marked T size lo hi w' (some ⟨g, 0, none⟩) n (k + size * (ns.take i).sum)) (hrow : MkRow T size lo hi w' (some ⟨g, 0, none⟩) n) : NRows T size lo hi w' A us ns ∧ NMarked T size lo hi w' us ns k (i + 1) := by
  have hb : ∀ b, b ≠ g → b < w.heap.size → w'.heap[b]? = w.heap[b]? := fun b hb hlt => by
    rcases Nat.lt_or_ge b g with h1 | h1
    · exact hk.below.block b h1
    · exact hk.keep b (by omega) hlt
  refine ⟨⟨h.len, fun hp => ?_, fun j u m hu' hm' => ?_, h.apart, h.off⟩, fun j u m hj hu' hm' => ?_⟩
  · obtain ⟨g', h1, h2, h3, h4, h5⟩ := h.outer hp
    have hne : g' ≠ g := fun e => h.off i _ g g' hu rfl h1 e.symm
    exact ⟨g', h1, h2, h3, Nat.lt_of_lt_of_le h4 hk.size, fun j u hj => (World.cell?_of_block (w := w) (a := ⟨g', j, none⟩) (hb g' hne h4)).trans (h5 j u hj)⟩
  · by_cases e : j = i
    · subst e
      rw [hu] at hu'
      rw [hn] at hm'
      obtain rfl := Option.some.inj hu'
      obtain rfl := Option.some.inj hm'
      exact ⟨_, c, rfl, hrow⟩
    · obtain ⟨A', c', rfl, h2⟩ := h.rows j u m hu' hm'
      refine ⟨A', c', rfl, fun h0 => ?_⟩
      obtain ⟨b, N, f, rfl, b2, b3, b4, b5⟩ := h2 h0
      have hne : b ≠ g := fun e' => e (h.apart j i _ _ b hu' hu rfl (by rw [e']; rfl))
      exact ⟨b, N, f, rfl, b2, b3, b4.of_block (hb b hne b4.lt), b5⟩
  · by_cases e : j = i
    · subst e
      rw [hu] at hu'
      rw [hn] at hm'
      obtain rfl := Option.some.inj hu'
      obtain rfl := Option.some.inj hm'
      exact ⟨_, c, rfl, hr⟩
    · obtain ⟨A', c', rfl, h2⟩ := hm j u m (by omega) hu' hm'
      refine ⟨A', c', rfl, fun h0 => ?_⟩
      obtain ⟨b, N, f, rfl, b2, b3, b4, b5, b6⟩ := h2 h0
      have hne : b ≠ g := fun e' => e (h.apart j i _ _ b hu' hu rfl (by rw [e']; rfl))
      exact ⟨b, N, f, rfl, b2, b3, b4.of_block (hb b hne b4.lt), b5, b6⟩
theorem NMarked.empty {T size lo hi k i c : Nat} {w : World} {us : List Value} {ns : List Nat} {A' : Option Addr} (hm : NMarked T size lo hi w us ns k i) (hu : us[i]? = some (.slice A' 0 c)) (hn : ns[i]? = some 0) : NMarked T size lo hi w us ns k (i + 1) := fun j u m hj hu' hm' => by
  by_cases e : j = i
  · subst e
    rw [hu] at hu'
    rw [hn] at hm'
    obtain rfl := Option.some.inj hu'
    obtain rfl := Option.some.inj hm'
    exact ⟨_, c, rfl, fun h => by omega⟩
  · exact hm j u m (by omega) hu' hm'
/-- all rows bear their marks -/
structure Marked2 (T size lo hi : Nat) (w : World) (A : Option Addr) (us : List Value) (ns : List Nat) (k : Nat) : Prop where
  rows : NRows T size lo hi w A us ns
  marks : NMarked T size lo hi w us ns k us.length
theorem Marked2.keep {T size lo hi k : Nat} {w w' : World} {A : Option Addr} {us : List Value} {ns : List Nat} (h : Marked2 T size lo hi w A us ns k) (hs : w.heap.size ≤ w'.heap.size) (hk : ∀ k, lo ≤ k → k < hi → w'.heap[k]? = w.heap[k]?) : Marked2 T size lo hi w' A us ns k :=
  ⟨h.rows.keep hs hk, fun j u n hj hu hn => by
    obtain ⟨A', c, h1, h2⟩ := h.marks j u n hj hu hn
    exact ⟨A', c, h1, h2.keep hk⟩⟩
theorem Marked2.below {T size lo hi k : Nat} {w w' : World} {A : Option Addr} {us : List Value} {ns : List Nat} (h : Marked2 T size lo hi w A us ns k) (hb : Below w.heap.size w w') (hh : hi ≤ w.heap.size) : Marked2 T size lo hi w' A us ns k := h.keep hb.size fun k _ h2 => hb.block k (by omega)
def MkResN (T size lo hi : Nat) (A : Option Addr) (us : List Value) (ns : List Nat) (k : Nat) (w : World) (e : Ending) (w' : World) : Prop := e = .returned (.int .i64 ((k + size * ns.sum : Nat) : Int)) ∧ Mk lo hi w w' ∧ Marked2 T size lo hi w' A us ns k
theorem Own2.mkd {w w' : World} {base lo hi T E size : Nat} {v : Value} {us : List Value} {rows : List (List Value)} (h : Own2 w base T E size v us rows) (hm : Mk lo hi w w') (hl : hi ≤ base) : Own2 w' base T E size v us rows := by
  have hd : ∀ {e s x n xs}, w.ownsRow base e s x n xs → w'.ownsRow base e s x n xs := fun h => ⟨h.1, h.2.imp id (fun ⟨g, cap, cur, h1, h2, h3, h4⟩ => ⟨g, cap, cur, h1, h2, (hm.keep g (by omega) (Array.getElem?_eq_some_iff.1 h3).1).trans h3, h4⟩)⟩
  exact ⟨hd h.outer, h.len, fun k u r hu hr => (h.inner k u r hu hr).imp fun n hn => hd hn, h.apart, h.off⟩
/-- how they read -/
theorem Own2.rd {α : Type} {size : Nat} {R : World → Nat → Nat → α → Prop} {w : World} {base TT T n c : Nat} {A : Option Addr} {us : List Value} {cells : List α → List Value} {xss : List (List α)} (h : Own2 w base TT T size (.slice A n c) us (xss.map cells)) (hn : n = xss.length)
    (hrd : ∀ (u : Value) (m : Nat) (xs : List α), xs ∈ xss → w.ownsRow base T size u m (cells xs) → ∃ A' n' c', u = .slice A' n' c' ∧ RdSl size R w A' n' xs) : RdSl 1 (RRow size R) w A n xss := by
  have hul : us.length = n := by rw [h.len, hn]; simp
  refine ⟨hn.symm, fun hp => ?_⟩
  obtain ⟨g, cap, hv⟩ := h.formPos hul hp
  injection hv with h1 h2 h3
  subst h1 h3
  refine ⟨g, 0, rfl, (h.lt g rfl).2, fun k hk => ?_⟩
  obtain ⟨u, hu⟩ : ∃ u, us[k]? = some u := ⟨_, List.getElem?_eq_getElem (by omega)⟩
  obtain ⟨m, r, hr, hown⟩ := h.get hu
  rw [List.getElem?_map, List.getElem?_eq_getElem hk] at hr
  simp only [Option.map_some, Option.some.injEq] at hr
  subst hr
  obtain ⟨A', n', c', rfl, hr'⟩ := hrd u m _ (List.getElem_mem hk) hown
  refine ⟨A', n', c', ?_, hr'⟩
  have hc := (h.cellAt hul hu).1
  rwa [show (0 : Nat) + k * 1 = k by omega]
end Go.Proofs.YtmhgjgclclnmaaaGreat
/- Walks: the harness on rows of rows of numbers: it compares them and marks them. -/



namespace Go.Proofs.YtmhgjgclclnmaaaGreat
open Go.RowKit
attribute [local go_sem] BelowBy.cell BelowBy.cell_drew stillUpon givesUpon BelowBy.cell_drew2 BelowBy.cell_drew3

set_option maxRecDepth 100000 in
set_option maxHeartbeats 1000000 in
theorem eqInt64SS_same (A B : Option Addr) (n c d : Nat) (xss : List (List Int)) (w : World) (h1 : RdSl 1 (RRow 1 RInt) w A n xss) (h2 : RdSl 1 (RRow 1 RInt) w B n xss) (hn : n ≤ 1073741824) (hx : ∀ e ∈ xss, e.length ≤ 1073741824) :
    Calls Tryz.prog 64 #[.slice A n c, .slice B n d] w fun e w' => e = .returned (.bool true) ∧ Below w.heap.size w w' := by
  
  go_enter Tryz.func64, Tryz.ntmps64
  go_wp2
  go_loopg [5] n (fun g i wr => ∃ k : Nat, k + g = n ∧ i = .int .i64 k ∧ Below w.heap.size w wr)
  case atStart => exact ⟨0, by omega, rfl, Below.refl _ _⟩
  case round =>
    obtain ⟨k, hk, rfl, hbw⟩ := hrel
    have r1 := h1.below (RRow.stable RInt.stable) hbw
    have r2 := h2.below (RRow.stable RInt.stable) hbw
    by_cases hlt : k < n
    · obtain ⟨b, o, rfl, hb, hc⟩ := r1.ptr (by omega)
      obtain ⟨b2, o2, rfl, hb2, hc2⟩ := r2.ptr (by omega)
      obtain ⟨e, he⟩ := h1.get hlt
      obtain ⟨A1, n1, d1, c1b, hs1⟩ := hc k e he
      obtain ⟨A2, n2, d2, c2b, hs2⟩ := hc2 k e he
      obtain rfl : n1 = n2 := hs1.len.symm.trans hs2.len
      have hm : n1 ≤ 1073741824 := by rw [← hs1.len]; exact hx e (List.mem_of_getElem? he)
      simp only [Nat.mul_one] at c1b c2b
      have hs1H := Lib.hid hs1
      have hs2H := Lib.hid hs2
      clear hc hc2 he r1 r2 hs1 hs2
      go_wp2
      refine wp_region_ord [(0, .q), (1, .q), (2, .q), (3, .q), (4, .q), (5, .q), (6, .q), (7, .q), (8, .g), (9, .q)] (by kernel_rfl) (by kernel_rfl) ?_
      simp only [pick, List.filterMap_cons, List.filterMap_nil, List.getElem?_toArray, List.getElem?_cons_zero, List.getElem?_cons_succ, Option.map_some]
      repeat (first
        | ((with_reducible refine wpD_p (fun K hK => ?_)); go_simp; refine hK _ ?_; clear hK K)
        | ((with_reducible refine wpD_q (fun K hK => ?_)); go_simp; (first | refine hK _ ?_ | (go_bits; refine hK _ ?_) | (go_bits; go_simp; refine hK _ ?_)); clear hK K)
        | ((with_reducible refine wpD_g (fun K hK => ?_)); go_simp; refine hK _ _ ?_; clear hK K)
        | ((with_reducible refine wpD_g (fun K hK => ?_)); go_simp; refine ⟨Grew.of_alloc _, hK _ _ ?_⟩; clear hK K)
        | ((with_reducible refine wpD_g (fun K hK => ?_)); go_simp; go_at_call 63; refine (eqInt64S_same A1 A2 n1 d1 d2 e _ (hs1H.out.below RInt.stable (by exact bel_)) (hs2H.out.below RInt.stable (by exact bel_)) hm).mono ?_; rintro e w1 ⟨rfl, hb1⟩; refine ⟨_, rfl, hb1, hK _ _ ?_⟩; clear hK K; obtain ⟨chb1, fhb1, shb1, thb1⟩ := bcell hb1; (try have bhb10 := shb1 (b) (by go_simp)); (try have bhb11 := shb1 (b2) (by go_simp))))
      with_reducible refine wpD_nil ?_
      go_wp2
      go_roundg (n - (k + 1))
      case measure => omega
      case rel => exact ⟨k + 1, by omega, by go_num, (by exact bel_)⟩
    · obtain rfl : k = n := by omega
      go_wp2
      go_ret
      exact ⟨rfl, hbw⟩
set_option maxRecDepth 100000 in
set_option maxHeartbeats 1000000 in
theorem markInt64SS_c (A : Option Addr) (N c k lo hi : Nat) (us : List Value) (ns : List Nat) (w : World) (hN : us.length = N) (h : NRows 2 1 lo hi w A us ns) (hl : lo ≤ w.heap.size) (hh : hi ≤ w.heap.size) (hk : k + ns.sum ≤ 4611686018427387904) (hu : N ≤ 1073741824) :
    Calls Tryz.prog 71 #[.slice A N c, .int .i64 (k : Int)] w (MkResN 2 1 lo hi A us ns k w) := by
  have hNH := Lib.hid hN
  clear hN
  go_enter Tryz.func71, Tryz.ntmps71
  go_wp2
  go_loopg [5, 1] N (fun r x kk wr => ∃ i : Nat, i + r = N ∧ x = .int .i64 (i : Int) ∧ kk = .int .i64 ((k + (ns.take i).sum : Nat) : Int) ∧ Hid (NRows 2 1 lo hi wr A us ns) ∧ Hid (NMarked 2 1 lo hi wr us ns k i) ∧ Hid (Mk lo hi w wr))
  case atStart => exact ⟨0, by omega, rfl, by simp, Lib.hid h, Lib.hid (NMarked.zero _ _ _ _ _ _ _ _), Lib.hid (Mk.refl _ _ _)⟩
  case round =>
    obtain ⟨i, hi', rfl, rfl, hr, hm, hmk⟩ := hrel
    have hle := sum_take_le ns i
    obtain ⟨j0, hj⟩ : ∃ j0, k + (ns.take i).sum = j0 := ⟨_, rfl⟩
    rw [hj]
    have hjH := Lib.hid hj
    have hj0 : j0 ≤ 4611686018427387904 := by omega
    clear hj
    by_cases hlt : i < N
    · obtain ⟨g, rfl, hg1, hg2, hg3, hgc⟩ := hr.out.outer (by rw [hNH.out]; omega)
      obtain ⟨u, huu⟩ : ∃ u, us[i]? = some u := ⟨_, List.getElem?_eq_getElem (by rw [hNH.out]; exact hlt)⟩
      obtain ⟨n, hn⟩ : ∃ n, ns[i]? = some n := ⟨_, List.getElem?_eq_getElem (by rw [← hr.out.len, hNH.out]; exact hlt)⟩
      obtain ⟨A', c', rfl, hrow⟩ := hr.out.rows i u n huu hn
      have hc0 := hgc i _ huu
      have hsu := sum_take_succ ns i n hn
      have hle2 := sum_take_le ns (i + 1)
      have hj2 : j0 + n ≤ 4611686018427387904 := by have := hjH.out; omega
      have hnH := Lib.hid hn
      have huH := Lib.hid huu
      have hsuH := Lib.hid hsu
      clear hgc hn huu hsu hle hle2
      by_cases h0 : n = 0
      · subst h0
        have hempty := Lib.hid (hm.out.empty huH.out hnH.out)
        go_wp2_with (refine (markInt64S_zero A' c' j0 _).mono ?_; rintro e w' ⟨rfl, rfl⟩)
        go_roundg (N - (i + 1))
        case measure => omega
        case rel => exact ⟨i + 1, by omega, by go_num, by rw [hsuH.out, Nat.add_zero, hjH.out], hr, hempty, hmk⟩
      · obtain ⟨b, M, f0, rfl, b2, b3, b4, b5⟩ := hrow (by omega)
        have b4H := Lib.hid b4
        clear hrow b4
        go_wp2_with (refine (markInt64S_core b M n c' j0 f0 _ b4H.out b5 hj2).mono ?_; rintro e w' ⟨rfl, hmw, f, hrow', hcont⟩; have hmwH := Lib.hid hmw; have hrowH := Lib.hid hrow'; have hcontH := Lib.hid hcont; clear hmw hrow' hcont)
        have hst := hr.out.marked hm.out huH.out hnH.out hmwH.out (fun _ => ⟨b, M, f, rfl, b2, b3, hrowH.out, b5, by rw [Nat.one_mul, hjH.out]; exact hcontH.out⟩) (fun _ => ⟨b, M, f, rfl, b2, b3, hrowH.out, b5⟩)
        have hstH := Lib.hid hst
        clear hst
        go_roundg (N - (i + 1))
        case measure => omega
        case rel => exact ⟨i + 1, by omega, by go_num, by rw [hsuH.out, ← Nat.add_assoc, hjH.out]; go_num, Lib.hid hstH.out.1, Lib.hid hstH.out.2, Lib.hid (hmk.out.trans (hmwH.out.weaken b2 (by omega)))⟩
    · obtain rfl : i = N := by omega
      go_wp2
      go_ret
      have hall : ns.take i = ns := List.take_of_length_le (by rw [← hr.out.len, hNH.out]; exact Nat.le_refl _)
      exact ⟨ret_int (show (j0 : Int) = ((k + 1 * ns.sum : Nat) : Int) by rw [← hjH.out, hall, Nat.one_mul]), hmk.out, hr.out, by rw [hNH.out]; exact hm.out⟩
set_option maxRecDepth 100000 in
set_option maxHeartbeats 1000000 in
theorem heldInt64SS_any (A : Option Addr) (N c k lo hi : Nat) (us : List Value) (ns : List Nat) (w : World) (hN : us.length = N) (h : Marked2 2 1 lo hi w A us ns k) (hk : k + ns.sum ≤ 4611686018427387904) (hu : N ≤ 1073741824) :
    Calls Tryz.prog 74 #[.slice A N c, .int .i64 (k : Int)] w fun e w' => e = .returned (.int .i64 ((k + 1 * ns.sum : Nat) : Int)) ∧ w = w' := by
  have hNH := Lib.hid hN
  have hH := Lib.hid h
  clear hN h
  go_enter Tryz.func74, Tryz.ntmps74
  go_wp2
  go_loopg [5, 1] N (fun r x kk wr => ∃ i : Nat, i + r = N ∧ x = .int .i64 (i : Int) ∧ kk = .int .i64 ((k + (ns.take i).sum : Nat) : Int) ∧ w = wr)
  case atStart => exact ⟨0, by omega, rfl, by simp, rfl⟩
  case round =>
    obtain ⟨i, hi', rfl, rfl, rfl⟩ := hrel
    have hle := sum_take_le ns i
    obtain ⟨j0, hj⟩ : ∃ j0, k + (ns.take i).sum = j0 := ⟨_, rfl⟩
    rw [hj]
    have hjH := Lib.hid hj
    have hj0 : j0 ≤ 4611686018427387904 := by omega
    clear hj
    by_cases hlt : i < N
    · obtain ⟨g, rfl, hg1, hg2, hg3, hgc⟩ := hH.out.rows.outer (by rw [hNH.out]; omega)
      obtain ⟨u, huu⟩ : ∃ u, us[i]? = some u := ⟨_, List.getElem?_eq_getElem (by rw [hNH.out]; exact hlt)⟩
      obtain ⟨n, hn⟩ : ∃ n, ns[i]? = some n := ⟨_, List.getElem?_eq_getElem (by rw [← hH.out.rows.len, hNH.out]; exact hlt)⟩
      obtain ⟨A', c', rfl, hmd⟩ := hH.out.marks i u n (by rw [hNH.out]; exact hlt) huu hn
      rw [Nat.one_mul, hjH.out] at hmd
      have hmdH := Lib.hid hmd
      have hc0 := hgc i _ huu
      have hsu := sum_take_succ ns i n hn
      have hle2 := sum_take_le ns (i + 1)
      have hj2 : j0 + n ≤ 4611686018427387904 := by have := hjH.out; omega
      have hjp : (0 : Int) ≤ (j0 : Int) + (n : Int) := by omega
      have hsuH := Lib.hid hsu
      clear hgc hn huu hsu hle hle2 hmd
      go_wp2_with (refine (heldInt64S_any A' n c' j0 lo hi _ hmdH.out hj2).mono ?_; rintro e w' ⟨rfl, rfl⟩)
      go_roundg (N - (i + 1))
      case measure => omega
      case rel => exact ⟨i + 1, by omega, by go_num, by rw [hsuH.out, ← Nat.add_assoc, hjH.out]; go_num, rfl⟩
    · obtain rfl : i = N := by omega
      go_wp2
      go_ret
      have hall : ns.take i = ns := List.take_of_length_le (by rw [← hH.out.rows.len, hNH.out]; exact Nat.le_refl _)
      exact ⟨ret_int (show (j0 : Int) = ((k + 1 * ns.sum : Nat) : Int) by rw [← hjH.out, hall, Nat.one_mul]), rfl⟩
end Go.Proofs.YtmhgjgclclnmaaaGreat
/- Rows of one type lie in no block of another type. -/


namespace Go.Proofs.YtmhgjgclclnmaaaGreat
theorem own_ne_row {w : World} {base : Nat} {e T : TypeId} {size : Nat} {v : Value} {n : Nat} {xs : List Value} {g N : Nat} {f : Nat → Value} (h : w.ownsRow base e size v n xs) (hr : w.rowIs g T N f) (hne : e ≠ T) : v.ownBlock ≠ some g := by
  rcases h.2 with ⟨rfl, _⟩ | ⟨g', cap, cur, rfl, _, hh, _⟩
  · intro hc
    cases hc
  · intro hc
    have hg : some g' = some g := hc
    injection hg with hg
    subst hg
    obtain ⟨cur', hh', _⟩ := hr
    have := Option.some.inj (hh.symm.trans hh')
    injection this with _ h3
    exact hne h3
theorem mkRow_hi {w : World} {base size n c hi : Nat} {e : TypeId} {A : Option Addr} {xs : List Value} (h : w.ownsRow base e size (.slice A n c) n xs) (hh : ∀ g, (Value.slice A n c).ownBlock = some g → g < hi) : MkRow e size base hi w A n := fun hn => by
  obtain ⟨g, N, f, h1, h2, _, h4, h5⟩ := mkRow_of_owns h hn
  exact ⟨g, N, f, h1, h2, hh g (by subst h1; rfl), h4, h5⟩
end Go.Proofs.YtmhgjgclclnmaaaGreat
/- Walks: the harness on a result that is a proof: a row of numbers, or rows of numbers; its sequences are empty. -/




namespace Go.Proofs.YtmhgjgclclnmaaaGreat
open Go.RowKit
attribute [local go_sem] BelowBy.cell BelowBy.cell_drew stillUpon givesUpon

theorem eqOptionS_nil (w : World) : Calls Tryz.prog 62 #[.slice none 0 0, .slice none 0 0] w fun e w' => e = .returned (.bool true) ∧ w' = w := by
  go_enter Tryz.func62, Tryz.ntmps62
  go_wp2
  go_loopg [5] 0 (fun g i wr => i = .int .i64 0 ∧ wr = w)
  case atStart => exact ⟨rfl, rfl⟩
  case round =>
    obtain ⟨rfl, hw⟩ := hrel
    go_wp2
    go_ret
    exact ⟨rfl, rfl⟩
theorem markOptionS_nil (k : Nat) (w : World) : Calls Tryz.prog 69 #[.slice none 0 0, .int .i64 (k : Int)] w fun e w' => e = .returned (.int .i64 (k : Int)) ∧ w' = w := by
  go_enter Tryz.func69, Tryz.ntmps69
  go_wp2
  go_loopg [5, 1] 0 (fun g i x wr => i = .int .i64 0 ∧ x = .int .i64 (k : Int) ∧ wr = w)
  case atStart => exact ⟨rfl, rfl, rfl⟩
  case round =>
    obtain ⟨rfl, rfl, hw⟩ := hrel
    go_wp2
    go_ret
    exact ⟨rfl, rfl⟩
theorem heldOptionS_nil (k : Nat) (w : World) : Calls Tryz.prog 72 #[.slice none 0 0, .int .i64 (k : Int)] w fun e w' => e = .returned (.int .i64 (k : Int)) ∧ w' = w := by
  go_enter Tryz.func72, Tryz.ntmps72
  go_wp2
  go_loopg [5, 1] 0 (fun g i x wr => i = .int .i64 0 ∧ x = .int .i64 (k : Int) ∧ wr = w)
  case atStart => exact ⟨rfl, rfl, rfl⟩
  case round =>
    obtain ⟨rfl, rfl, hw⟩ := hrel
    go_wp2
    go_ret
    exact ⟨rfl, rfl⟩
set_option maxHeartbeats 2000000 in
theorem eqProof_same {kd : Int} (A B C D : Option Addr) (n ca cb m cc cd : Nat) (l : List Int) (L : List (List Int)) (w : World) (h1 : RdSl 1 RInt w A n l) (h2 : RdSl 1 RInt w B n l) (h3 : RdSl 1 (RRow 1 RInt) w C m L) (h4 : RdSl 1 (RRow 1 RInt) w D m L)
    (hn : n ≤ 1073741824) (hm : m ≤ 1073741824) (hx : ∀ e ∈ L, e.length ≤ 1073741824) :
    Calls Tryz.prog 25 #[.agg #[.int .i64 kd, .slice none 0 0, .slice none 0 0, .slice A n ca, .slice C m cc], .agg #[.int .i64 kd, .slice none 0 0, .slice none 0 0, .slice B n cb, .slice D m cd]] w fun e w' => e = .returned (.bool true) ∧ Below w.heap.size w w' := by
  
  have h1H := Lib.hid h1
  have h2H := Lib.hid h2
  have h3H := Lib.hid h3
  have h4H := Lib.hid h4
  have hxH := Lib.hid hx
  clear h1 h2 h3 h4 hx
  go_enter Tryz.func25, Tryz.ntmps25
  go_wp2_with fail
  refine (eqOptionS_nil _).mono ?_
  rintro e _ ⟨rfl, rfl⟩
  go_wp2_with fail
  refine (eqOptionS_nil _).mono ?_
  rintro e _ ⟨rfl, rfl⟩
  go_wp2_with fail
  refine (eqInt64S_same _ _ _ _ _ l _ (h1H.out.below RInt.stable (by exact bel_)) (h2H.out.below RInt.stable (by exact bel_)) hn).mono ?_
  rintro e w1 ⟨rfl, hb1⟩
  have hB1 := Lib.hid (show Below w.heap.size w w1 by exact bel_)
  obtain ⟨chb1, fhb1, shb1, thb1⟩ := bcell hb1
  have b0 := shb1 w.heap.size (by go_simp)
  have b1 := shb1 (w.heap.size + 1) (by go_simp)
  go_wp2_with fail
  refine (eqInt64SS_same _ _ _ _ _ L _ (h3H.out.below (RRow.stable RInt.stable) hB1.out) (h4H.out.below (RRow.stable RInt.stable) hB1.out) hm hxH.out).mono ?_
  rintro e w2 ⟨rfl, hb2⟩
  have hB2 := Lib.hid (hB1.out.trans (hb2.mono hB1.out.size))
  go_wp2
  go_ret
  exact ⟨rfl, hB2.out⟩
theorem rdI_nil (w : World) : RdSl 1 RInt w none 0 [] := ⟨rfl, fun h => by omega⟩
theorem rdSS_nil (w : World) : RdSl 1 (RRow 1 RInt) w none 0 [] := ⟨rfl, fun h => by omega⟩
/-- a proof that is a row of numbers -/
theorem eqProofL_same {kd : Int} (A B : Option Addr) (n c d : Nat) (l : List Int) (w : World) (h1 : RdSl 1 RInt w A n l) (h2 : RdSl 1 RInt w B n l) (hn : n ≤ 1073741824) :
    Calls Tryz.prog 25 #[.agg #[.int .i64 kd, .slice none 0 0, .slice none 0 0, .slice A n c, .slice none 0 0], .agg #[.int .i64 kd, .slice none 0 0, .slice none 0 0, .slice B n d, .slice none 0 0]] w fun e w' => e = .returned (.bool true) ∧ Below w.heap.size w w' :=
  eqProof_same A B none none n c d 0 0 0 l [] w h1 h2 (rdSS_nil w) (rdSS_nil w) hn (by omega) (fun e h => by simp at h)
theorem eqProofS_same {kd : Int} (A B : Option Addr) (c d : Nat) (L : List (List Int)) (w : World) (h1 : RdSl 1 (RRow 1 RInt) w A L.length L) (h2 : RdSl 1 (RRow 1 RInt) w B L.length L) (hm : L.length ≤ 1073741824) (hx : ∀ e ∈ L, e.length ≤ 1073741824) :
    Calls Tryz.prog 25 #[.agg #[.int .i64 kd, .slice none 0 0, .slice none 0 0, .slice none 0 0, .slice A L.length c], .agg #[.int .i64 kd, .slice none 0 0, .slice none 0 0, .slice none 0 0, .slice B L.length d]] w fun e w' => e = .returned (.bool true) ∧ Below w.heap.size w w' :=
  eqProof_same none none A B 0 0 0 L.length c d [] L w (rdI_nil w) (rdI_nil w) h1 h2 (by omega) hm hx
theorem mkRow_none (T size lo hi : Nat) (w : World) : MkRow T size lo hi w none 0 := fun h => by omega
theorem nrows_none (T size lo hi : Nat) (w : World) : NRows T size lo hi w none [] [] := ⟨rfl, fun h => by simp at h, fun j u n h => by simp at h, fun j k u u' g h => by simp at h, fun k u g g' h => by simp at h⟩
theorem marked_none (T size lo hi k : Nat) (w : World) : Marked T size lo hi w none 0 k := fun h => by omega
theorem marked2_none (T size lo hi k : Nat) (w : World) : Marked2 T size lo hi w none [] [] k := ⟨nrows_none _ _ _ _ _, NMarked.zero _ _ _ _ _ _ _ _⟩
theorem mk_same {lo hi lo' hi' : Nat} {w w' : World} (h : Mk lo hi w w') (h1 : lo' ≤ lo) (h2 : hi ≤ hi') : Mk lo' hi' w w' := h.weaken h1 h2
set_option maxHeartbeats 2000000 in
theorem markProofL_cc {kd : Int} (A : Option Addr) (n c k lo hi : Nat) (w : World) (hlo : lo ≤ hi) (h : MkRow 2 1 lo hi w A n) (hh : hi ≤ w.heap.size) (hl : lo ≤ w.heap.size) (hk : k + n ≤ 4611686018427387904) :
    Calls Tryz.prog 30 #[.agg #[.int .i64 kd, .slice none 0 0, .slice none 0 0, .slice A n c, .slice none 0 0], .int .i64 (k : Int)] w (MkResC 2 1 lo hi A n k w (k + n)) := by
  have ha : Below w.heap.size w (w.alloc (.cells #[.int .i64 kd, .slice none 0 0, .slice none 0 0, .slice A n c, .slice none 0 0] 65)) := bl_al (bl_refl _) _
  have haH := Lib.hid ha
  have h' := Lib.hid (h.below ha hh)
  clear h ha
  go_enter Tryz.func30, Tryz.ntmps30
  go_wp2_with fail
  refine (markOptionS_nil k _).mono ?_
  rintro e _ ⟨rfl, rfl⟩
  go_wp2_with fail
  refine (markOptionS_nil k _).mono ?_
  rintro e _ ⟨rfl, rfl⟩
  go_wp2_with fail
  refine (markInt64S_c A n c k lo hi _ h'.out (by simp; omega) (by simp; omega) hk).mono ?_
  rintro e w1 ⟨rfl, hm1, hc1⟩
  have hm1H := Lib.hid hm1
  have hc1H := Lib.hid hc1
  have s1 := hm1.size
  simp only [World.size_alloc] at s1
  have y4 := (World.cell?_of_block (a := ⟨w.heap.size, 4, none⟩) (hm1.keep w.heap.size (by omega) (by go_simp))).trans (show _ = some (Value.slice none 0 0) by go_simp)
  clear hm1 hc1
  go_wp2_with fail
  refine (markInt64SS_c none 0 0 (k + n) hi hi [] [] w1 rfl (nrows_none _ _ _ _ _) (by omega) (by omega) (by simp; omega) (by omega)).mono ?_
  rintro e w2 ⟨rfl, hm2, hc2⟩
  have hlh : lo ≤ hi := hlo
  have hm2H := Lib.hid hm2
  have hc12 := Lib.hid (hc1H.out.keep fun i i1 i2 => hm2.below.block i i2)
  clear hm2 hc2
  simp only [List.sum_nil, Nat.mul_zero, Nat.add_zero]
  go_wp2
  go_ret
  exact ⟨rfl, ((Mk.of_below haH.out hl).trans hm1H.out).trans (hm2H.out.weaken hlh (Nat.le_refl _)), hc12.out⟩
set_option maxHeartbeats 2000000 in
theorem markProofL_c {kd : Int} (A : Option Addr) (n c k lo hi : Nat) (w : World) (h : MkRow 2 1 lo hi w A n) (hh : hi ≤ w.heap.size) (hl : lo ≤ w.heap.size) (hk : k + n ≤ 4611686018427387904) :
    Calls Tryz.prog 30 #[.agg #[.int .i64 kd, .slice none 0 0, .slice none 0 0, .slice A n c, .slice none 0 0], .int .i64 (k : Int)] w (MkResC 2 1 lo hi A n k w (k + n)) := by
  by_cases hlo : lo ≤ hi
  · exact markProofL_cc A n c k lo hi w hlo h hh hl hk
  · have hn : n = 0 := by
      rcases Nat.eq_zero_or_pos n with h0 | h0
      · exact h0
      · obtain ⟨g, N, f, _, h1, h2, _⟩ := h h0
        omega
    subst hn
    refine (markProofL_cc (kd := kd) A 0 c k lo lo w (Nat.le_refl _) (fun h => by omega) (by omega) hl hk).mono ?_
    rintro e w' ⟨rfl, hm, _⟩
    exact ⟨rfl, ⟨hm.below, hm.size, fun i h1 h2 => by
      by_cases hi' : lo ≤ i
      · exact hm.keep i hi' h2
      · exact hm.below.block i (by omega)⟩, fun h => by omega⟩
set_option maxHeartbeats 2000000 in
theorem heldProofL_any {kd : Int} (A : Option Addr) (n c k lo hi : Nat) (w : World) (h : Marked 2 1 lo hi w A n k) (hh : hi ≤ w.heap.size) (hk : k + n ≤ 4611686018427387904) :
    Calls Tryz.prog 31 #[.agg #[.int .i64 kd, .slice none 0 0, .slice none 0 0, .slice A n c, .slice none 0 0], .int .i64 (k : Int)] w fun e w' => e = .returned (.int .i64 ((k + n : Nat) : Int)) ∧ Below w.heap.size w w' := by
  have ha : Below w.heap.size w (w.alloc (.cells #[.int .i64 kd, .slice none 0 0, .slice none 0 0, .slice A n c, .slice none 0 0] 65)) := bl_al (bl_refl _) _
  have haH := Lib.hid ha
  have h' := Lib.hid (h.below ha hh)
  clear h ha
  have hk0 : (0 : Int) ≤ (k : Int) := by omega
  have hk1 : (0 : Int) ≤ ((k + n : Nat) : Int) := by omega
  go_enter Tryz.func31, Tryz.ntmps31
  go_wp2_with fail
  refine (heldOptionS_nil k _).mono ?_
  rintro e _ ⟨rfl, rfl⟩
  go_wp2_with fail
  refine (heldOptionS_nil k _).mono ?_
  rintro e _ ⟨rfl, rfl⟩
  go_wp2_with fail
  refine (heldInt64S_any A n c k lo hi _ h'.out hk).mono ?_
  rintro e _ ⟨rfl, rfl⟩
  obtain ⟨kn, hkn⟩ : ∃ kn, kn = k + n := ⟨_, rfl⟩
  rw [← hkn] at hk1 ⊢
  have hknH := Lib.hid hkn
  clear hkn
  go_wp2_with fail
  refine (heldInt64SS_any none 0 0 kn 0 0 [] [] _ rfl (marked2_none _ _ _ _ _ _) (by simp; have := hknH.out; omega) (by omega)).mono ?_
  rintro e _ ⟨rfl, rfl⟩
  simp only [List.sum_nil, Nat.mul_zero, Nat.add_zero]
  go_wp2
  go_ret
  exact ⟨ret_int (by rw [hknH.out]), haH.out⟩
/-- rows of numbers of the call's own, below hi -/
structure OwnF (W : World) (lo hi : Nat) (A : Option Addr) (c : Nat) (us : List Value) (L : List (List Int)) : Prop where
  own : Own2 W lo 33 2 1 (.slice A L.length c) us (L.map fun l => l.map (Value.int .i64))
  hv : ∀ g, (Value.slice A L.length c).ownBlock = some g → g < hi
  hu : ∀ (k : Nat) (u : Value) (g : Nat), us[k]? = some u → u.ownBlock = some g → g < hi
  hh : hi ≤ W.heap.size
section
variable {W W' : World} {lo hi : Nat} {A : Option Addr} {c : Nat} {us : List Value} {L : List (List Int)}
theorem OwnF.below (h : OwnF W lo hi A c us L) (hb : Below W.heap.size W W') : OwnF W' lo hi A c us L := ⟨h.own.below hb, h.hv, h.hu, Nat.le_trans h.hh hb.size⟩
theorem OwnF.rebase {lo' : Nat} (h : OwnF W lo hi A c us L) (hl : lo' ≤ lo) : OwnF W lo' hi A c us L := ⟨h.own.rebase hl, h.hv, h.hu, h.hh⟩
theorem OwnF.mkd {lo' hi' : Nat} (h : OwnF W lo hi A c us L) (hm : Mk lo' hi' W W') (hl : hi' ≤ lo) : OwnF W' lo hi A c us L := ⟨h.own.mkd hm hl, h.hv, h.hu, Nat.le_trans h.hh hm.size⟩
theorem OwnF.fl {g N i : Nat} {T : TypeId} {f : Nat → Value} (h : OwnF W lo hi A c us L) (hr : W.rowIs g T N f) (hne : 2 ≠ T ∧ 33 ≠ T) (u : Value) : OwnF (W.setCell ⟨g, i, none⟩ u) lo hi A c us L := by
  have hg : W.grownBy (W.setCell ⟨g, i, none⟩ u) (some g) := ⟨rfl, rfl, rfl, by simp, fun k hk hne => Below.heap_setCell _ _ _ _ (fun e => hne (by rw [e]))⟩
  refine ⟨h.own.kept hg (fun g' e => ?_), h.hv, h.hu, by simpa using h.hh⟩
  injection e with e
  subst e
  refine ⟨own_ne_row h.own.outer hr hne.2, fun k u' hu' => ?_⟩
  obtain ⟨n, r, _, hr'⟩ := h.own.get hu'
  exact own_ne_row hr' hr hne.1
theorem OwnF.rd (h : OwnF W lo hi A c us L) : RdSl 1 (RRow 1 RInt) W A L.length L :=
  h.own.rd rfl (fun u m xs hx hown => by
    have hl := hown.1
    simp at hl
    obtain ⟨A', c', rfl⟩ := ownsRow_form hown
    exact ⟨A', m, c', rfl, rdI hown hl.symm⟩)
theorem OwnF.nrows (h : OwnF W lo hi A c us L) : NRows 2 1 lo hi W A us (L.map List.length) := by
  have h0 := NRows.of (ns := L.map List.length) h.own (by decide) (by simp) (fun j r m hr hm => by
    rw [List.getElem?_map] at hr hm
    cases hg : L[j]? with
    | none => rw [hg] at hr; cases hr
    | some l =>
      rw [hg] at hr hm
      simp at hr hm
      rw [← hr, ← hm, List.length_map, Nat.mul_one])
  refine ⟨h0.len, fun hp => ?_, fun j u n hu hn => ?_, h0.apart, h0.off⟩
  · obtain ⟨g, h1, h2, h3, h4, h5⟩ := h0.outer hp
    exact ⟨g, h1, h2, h.hv g (by subst h1; rfl), h4, h5⟩
  · obtain ⟨A', c', h1, h2⟩ := h0.rows j u n hu hn
    refine ⟨A', c', h1, fun hn0 => ?_⟩
    obtain ⟨g, N, f, g1, g2, _, g4, g5⟩ := h2 hn0
    exact ⟨g, N, f, g1, g2, h.hu j u g hu (by subst h1 g1; rfl), g4, g5⟩
theorem OwnF.empty (W : World) {n : Nat} (h : n ≤ W.heap.size) : OwnF W n W.heap.size none 0 [] [] :=
  ⟨Own2.nil _ _ _ _ _, (fun g e => by cases e), (fun k u g h => by simp at h), Nat.le_refl _⟩
end
set_option maxHeartbeats 2000000 in
theorem markProofS_cc {kd : Int} (A : Option Addr) (c k lo hi : Nat) (us : List Value) (L : List (List Int)) (w : World) (h : OwnF w lo hi A c us L) (hlo : lo ≤ hi) (hk : k + (L.map List.length).sum ≤ 4611686018427387904) (hn : L.length ≤ 1073741824) :
    Calls Tryz.prog 30 #[.agg #[.int .i64 kd, .slice none 0 0, .slice none 0 0, .slice none 0 0, .slice A L.length c], .int .i64 (k : Int)] w (MkResN 2 1 lo hi A us (L.map List.length) k w) := by
  have hh := h.hh
  have ha : Below w.heap.size w (w.alloc (.cells #[.int .i64 kd, .slice none 0 0, .slice none 0 0, .slice none 0 0, .slice A L.length c] 65)) := bl_al (bl_refl _) _
  have haH := Lib.hid ha
  have h' := Lib.hid (h.below ha)
  clear h ha
  go_enter Tryz.func30, Tryz.ntmps30
  go_wp2_with fail
  refine (markOptionS_nil k _).mono ?_
  rintro e _ ⟨rfl, rfl⟩
  go_wp2_with fail
  refine (markOptionS_nil k _).mono ?_
  rintro e _ ⟨rfl, rfl⟩
  go_wp2_with fail
  refine (markInt64S_c none 0 0 k lo lo _ (mkRow_none _ _ _ _ _) (by simp; omega) (by simp; omega) (by omega)).mono ?_
  rintro e w1 ⟨rfl, hm1, hc1⟩
  simp only [Nat.add_zero]
  have hm1H := Lib.hid hm1
  have s1 := hm1.size
  simp only [World.size_alloc] at s1
  have y4 := (World.cell?_of_block (a := ⟨w.heap.size, 4, none⟩) (hm1.keep w.heap.size (by omega) (by go_simp))).trans (show _ = some (Value.slice A L.length c) by go_simp)
  have h1 := Lib.hid (h'.out.mkd hm1 (Nat.le_refl _))
  clear hm1 hc1
  go_wp2_with fail
  refine (markInt64SS_c A L.length c k lo hi us _ w1 (by rw [h1.out.own.len]; simp) h1.out.nrows (by omega) (by omega) hk hn).mono ?_
  rintro e w2 ⟨rfl, hm2, hc2⟩
  have hm2H := Lib.hid hm2
  have hc2H := Lib.hid hc2
  clear hm2 hc2
  go_wp2
  go_ret
  exact ⟨ret_int (by omega), ((Mk.of_below haH.out (by omega)).trans (hm1H.out.weaken (Nat.le_refl _) hlo)).trans hm2H.out, hc2H.out⟩
set_option maxHeartbeats 2000000 in
theorem heldProofS_any {kd : Int} (A : Option Addr) (c k lo hi : Nat) (us : List Value) (L : List (List Int)) (w : World) (h : Marked2 2 1 lo hi w A us (L.map List.length) k) (hh : hi ≤ w.heap.size) (hk : k + (L.map List.length).sum ≤ 4611686018427387904) (hn : L.length ≤ 1073741824) :
    Calls Tryz.prog 31 #[.agg #[.int .i64 kd, .slice none 0 0, .slice none 0 0, .slice none 0 0, .slice A L.length c], .int .i64 (k : Int)] w fun e w' => e = .returned (.int .i64 ((k + 1 * (L.map List.length).sum : Nat) : Int)) ∧ Below w.heap.size w w' := by
  have ha : Below w.heap.size w (w.alloc (.cells #[.int .i64 kd, .slice none 0 0, .slice none 0 0, .slice none 0 0, .slice A L.length c] 65)) := bl_al (bl_refl _) _
  have haH := Lib.hid ha
  have h' := Lib.hid (h.below ha hh)
  clear h ha
  have hk0 : (0 : Int) ≤ (k : Int) := by omega
  have hk1 : (0 : Int) ≤ ((k + 1 * (L.map List.length).sum : Nat) : Int) := by omega
  obtain ⟨S, hS⟩ : ∃ S, S = (L.map List.length).sum := ⟨_, rfl⟩
  go_enter Tryz.func31, Tryz.ntmps31
  go_wp2_with fail
  refine (heldOptionS_nil k _).mono ?_
  rintro e _ ⟨rfl, rfl⟩
  go_wp2_with fail
  refine (heldOptionS_nil k _).mono ?_
  rintro e _ ⟨rfl, rfl⟩
  go_wp2_with fail
  refine (heldInt64S_any none 0 0 k lo lo _ (marked_none _ _ _ _ _ _) (by omega)).mono ?_
  rintro e _ ⟨rfl, rfl⟩
  simp only [Nat.add_zero]
  go_wp2_with fail
  refine (heldInt64SS_any A L.length c k lo hi us _ _ (by have := h'.out.rows.len; simpa using this) h'.out hk hn).mono ?_
  rintro e _ ⟨rfl, rfl⟩
  go_wp2
  go_ret
  exact ⟨ret_int (by omega), haH.out⟩
end Go.Proofs.YtmhgjgclclnmaaaGreat
/- Walks: stability, and ProveLoose: the program and the reference. -/





namespace Go.Proofs.YtmhgjgclclnmaaaGreat
open Go.RowKit Go.Shelf
attribute [local go_sem] BelowBy.cell BelowBy.cell_drew stillUpon givesUpon BelowBy.cell_drew2 BelowBy.cell_drew3

/-- whether an assembly is stable at a system's temperature, and the code -/
noncomputable def stabK (gs : List Gl) (ts : List Ti) (xs : List Pl) (t : Int) (ys : List Pl) : Bool × Int := if growB gs ts xs t ys = false then (false, 1) else if 64 < ys.length then (false, 4) else (holdsB ys.length (bondsL gs ts ys) t.toNat, 0)
theorem isStab_small {gs : List Gl} {ts : List Ti} {ys : List Pl} {t : Nat} (hv : validAsmB gs ts ys = true) (ht : tempB t = true) (h : ys.length ≤ 64) : isStabR gs ts ys t = (holdsB ys.length (bondsL gs ts ys) t, 0) := by
  rw [← isStabR_yes hv ht, stabR_small (bondsOk (valid_of hv)) h]
theorem growB_temp {gs : List Gl} {ts : List Ti} {xs ys : List Pl} {t : Int} (h : growB gs ts xs t ys = true) : ∃ n : Nat, t = (n : Int) ∧ tempB (n : Int) = true ∧ 1 ≤ n ∧ n ≤ 16 := by
  have ht := (sysOkB_valid (growB_true h).1).2.2
  obtain ⟨n, rfl, h1, h2⟩ := tempB_true ht
  exact ⟨n, rfl, ht, h1, h2⟩
section
variable {gs : List Gl} {ts : List Ti} {xs ys : List Pl} {t : Int}
theorem stabK_no (h : growB gs ts xs t ys = false) : ((false, 1) : Bool × Int) = stabK gs ts xs t ys := by unfold stabK; rw [if_pos h]
theorem stabK_full (h : growB gs ts xs t ys = true) (h2 : 64 < ys.length) : ((false, 4) : Bool × Int) = stabK gs ts xs t ys := by unfold stabK; rw [if_neg (by rw [h]; decide), if_pos h2]
theorem stabK_yes {n : Nat} (h : growB gs ts xs (n : Int) ys = true) (h2 : ¬ 64 < ys.length) : ((holdsB ys.length (bondsL gs ts ys) n, 0) : Bool × Int) = stabK gs ts xs (n : Int) ys := by
  unfold stabK; rw [if_neg (by rw [h]; decide), if_neg h2, Int.toNat_natCast]
end
set_option maxRecDepth 100000 in
set_option maxHeartbeats 2000000 in
theorem stability_any (G T A C : Option Addr) (n cg m ct q ca k cc : Nat) (gs : List Gl) (ts : List Ti) (xs ys : List Pl) (t : Int) (w : World) (h : SA w G n T m A q gs ts xs) (h2 : SA w G n T m C k gs ts ys) :
    Calls Tryz.prog 61 #[.agg #[.slice G n cg, .slice T m ct, .slice A q ca, .int .i64 t], .agg #[.slice C k cc]] w (BCodeRes w (stabK gs ts xs t ys)) := by
  
  have hS := Lib.hid h
  have hA := Lib.hid h2
  have hk := h2.A.len
  clear h h2
  cases hg : growB gs ts xs t ys
  · have hgH := Lib.hid hg
    clear hg
    go_enter Tryz.func61, Tryz.ntmps61
    go_wp2_with fail
    refine (growthCode_at (hS.out.below (by exact bel_)) (hA.out.below (by exact bel_)) hgH.out).mono ?_
    rintro e w1 ⟨rfl, hb1⟩
    go_wp2
    go_ret2
    exact BCodeRes.of (stabK_no hgH.out) (by exact bel_)
  · have hgH := Lib.hid hg
    obtain ⟨tn, rfl, ht, ht1, ht2⟩ := growB_temp hg
    have htH := Lib.hid ht
    have hv := Lib.hid (growB_true hg).2
    clear hg ht
    by_cases h64 : 64 < k
    · have h64i : (64 : Int) < (k : Int) := by omega
      go_enter Tryz.func61, Tryz.ntmps61
      go_wp2_with fail
      refine (growthCode_at (hS.out.below (by exact bel_)) (hA.out.below (by exact bel_)) hgH.out).mono ?_
      rintro e w1 ⟨rfl, hb1⟩
      have c1 := (hb1.cell (p := ⟨w.heap.size + 1, 0, none⟩) (by simp)).trans (show _ = some (Value.slice C k cc) by go_simp)
      have l1 : w.heap.size + 1 < w1.heap.size := by have := hb1.size; simp at this; omega
      simp only [codeB_true]
      go_wp2
      go_ret2
      exact BCodeRes.of (stabK_full hgH.out (by omega)) (by exact bel_)
    · have h64i : ¬ (64 : Int) < (k : Int) := by omega
      have hr := Lib.hid (isStab_small (ys := ys) hv.out htH.out (by omega))
      go_enter Tryz.func61, Tryz.ntmps61
      go_wp2_with fail
      refine (growthCode_at (hS.out.below (by exact bel_)) (hA.out.below (by exact bel_)) hgH.out).mono ?_
      rintro e w1 ⟨rfl, hb1⟩
      have c1 := (hb1.cell (p := ⟨w.heap.size + 1, 0, none⟩) (by simp)).trans (show _ = some (Value.slice C k cc) by go_simp)
      have g1 := (hb1.cell (p := ⟨w.heap.size, 0, none⟩) (by simp; omega)).trans (show _ = some (Value.slice G n cg) by go_simp)
      have g2 := (hb1.cell (p := ⟨w.heap.size, 1, none⟩) (by simp; omega)).trans (show _ = some (Value.slice T m ct) by go_simp)
      have g3 := (hb1.cell (p := ⟨w.heap.size, 2, none⟩) (by simp; omega)).trans (show _ = some (Value.slice A q ca) by go_simp)
      have g4 := (hb1.cell (p := ⟨w.heap.size, 3, none⟩) (by simp; omega)).trans (show _ = some (Value.int .i64 (tn : Int)) by go_simp)
      have l1 : w.heap.size + 1 < w1.heap.size := by have := hb1.size; simp at this; omega
      have l0 : w.heap.size < w1.heap.size := by omega
      have hb1H : Below w.heap.size w w1 := by exact bel_
      have hA1 := Lib.hid (hA.out.below hb1H)
      simp only [codeB_true]
      go_wp2_with fail
      refine (IsStable_any G T C n cg m ct k cc gs ts ys tn _ hA1.out).mono ?_
      rw [hr.out]
      rintro e w2 ⟨rfl, hb2⟩
      go_wp2
      go_ret2
      exact BCodeRes.of (by have hz := stabK_yes hgH.out (by omega); rw [hk] at hz; rw [← hk] at hz ⊢; exact hz) (by exact bel_)

/-- a proof that is a row of numbers -/
def PfLRes (w : World) (r : (Int × List Int) × Int) (e : Ending) (w' : World) : Prop :=
  ∃ A c, e = .returned (.tuple #[.agg #[.int .i64 r.1.1, .slice none 0 0, .slice none 0 0, .slice A r.1.2.length c, .slice none 0 0], .int .i64 r.2]) ∧ w'.ownsRow w.heap.size 2 1 (.slice A r.1.2.length c) r.1.2.length (r.1.2.map (Value.int .i64)) ∧ Below w.heap.size w w'
theorem PfLRes.of {w w' : World} {r : (Int × List Int) × Int} {kd : Int} {l : List Int} {c : Int} {A : Option Addr} {n cap : Nat} (h : ((kd, l), c) = r) (hn : n = l.length) (hr : w'.ownsRow w.heap.size 2 1 (.slice A n cap) n (l.map (Value.int .i64))) (hb : Below w.heap.size w w') :
    PfLRes w r (.returned (.tuple #[.agg #[.int .i64 kd, .slice none 0 0, .slice none 0 0, .slice A n cap, .slice none 0 0], .int .i64 c])) w' := by
  subst h hn
  exact ⟨A, cap, rfl, hr, hb⟩
theorem PfLRes.none {w w' : World} {r : (Int × List Int) × Int} {c : Int} (h : ((0, []), c) = r) (hb : Below w.heap.size w w') :
    PfLRes w r (.returned (.tuple #[.agg #[.int .i64 0, .slice none 0 0, .slice none 0 0, .slice none 0 0, .slice none 0 0], .int .i64 c])) w' := PfLRes.of h rfl (World.ownsRow_nil _ _ _ _) hb
theorem own_set5 {W : World} {b s : Nat} {e : TypeId} {size : Nat} {v : Value} {n : Nat} {xs : List Value} (h : W.ownsRow b e size v n xs) (hs : s < b) (u0 u1 u2 u3 u4 : Value) : (((((W.setCell ⟨s, 0, none⟩ u0).setCell ⟨s, 1, none⟩ u1).setCell ⟨s, 2, none⟩ u2).setCell ⟨s, 3, none⟩ u3).setCell ⟨s, 4, none⟩ u4).ownsRow b e size v n xs :=
  ownsRow_setCell_below (ownsRow_setCell_below (ownsRow_setCell_below (ownsRow_setCell_below (ownsRow_setCell_below h (a := ⟨s, 0, none⟩) hs u0) (a := ⟨s, 1, none⟩) hs u1) (a := ⟨s, 2, none⟩) hs u2) (a := ⟨s, 3, none⟩) hs u3) (a := ⟨s, 4, none⟩) hs u4
theorem below_set5 {B s : Nat} {a b : World} (h : Below B a b) (hs : B ≤ s) (u0 u1 u2 u3 u4 : Value) : Below B a (((((b.setCell ⟨s, 0, none⟩ u0).setCell ⟨s, 1, none⟩ u1).setCell ⟨s, 2, none⟩ u2).setCell ⟨s, 3, none⟩ u3).setCell ⟨s, 4, none⟩ u4) :=
  ((((h.setCell (p := ⟨s, 0, none⟩) hs u0).setCell (p := ⟨s, 1, none⟩) hs u1).setCell (p := ⟨s, 2, none⟩) hs u2).setCell (p := ⟨s, 3, none⟩) hs u3).setCell (p := ⟨s, 4, none⟩) hs u4
/-- the box of the result, open for a store -/
structure ResQ (w : World) (b : Nat) : Prop where
  lt : b < w.heap.size
  c0 : w.cell? ⟨b, 0, none⟩ = some (.int .i64 0)
  c1 : w.cell? ⟨b, 1, none⟩ = some (.slice none 0 0)
  c2 : w.cell? ⟨b, 2, none⟩ = some (.slice none 0 0)
  c3 : w.cell? ⟨b, 3, none⟩ = some (.slice none 0 0)
  c4 : w.cell? ⟨b, 4, none⟩ = some (.slice none 0 0)
  f0 : w.frozen? ⟨b, 0, none⟩ = false
  f1 : w.frozen? ⟨b, 1, none⟩ = false
  f2 : w.frozen? ⟨b, 2, none⟩ = false
  f3 : w.frozen? ⟨b, 3, none⟩ = false
  f4 : w.frozen? ⟨b, 4, none⟩ = false
theorem ResQ.below {B p : Nat} {w w' : World} (h : ResQ w p) (hb : Below B w w') (hp : p < B) : ResQ w' p :=
  ⟨Nat.lt_of_lt_of_le h.lt hb.size, (hb.cell (p := ⟨p, 0, none⟩) hp).trans h.c0, (hb.cell (p := ⟨p, 1, none⟩) hp).trans h.c1, (hb.cell (p := ⟨p, 2, none⟩) hp).trans h.c2, (hb.cell (p := ⟨p, 3, none⟩) hp).trans h.c3, (hb.cell (p := ⟨p, 4, none⟩) hp).trans h.c4,
    (hb.frozen (p := ⟨p, 0, none⟩) hp).trans h.f0, (hb.frozen (p := ⟨p, 1, none⟩) hp).trans h.f1, (hb.frozen (p := ⟨p, 2, none⟩) hp).trans h.f2, (hb.frozen (p := ⟨p, 3, none⟩) hp).trans h.f3, (hb.frozen (p := ⟨p, 4, none⟩) hp).trans h.f4⟩
theorem ResQ.new (w : World) (t : TypeId) : ResQ (w.alloc (.cells #[.int .i64 0, .slice none 0 0, .slice none 0 0, .slice none 0 0, .slice none 0 0] t)) w.heap.size :=
  ⟨by simp, by go_simp, by go_simp, by go_simp, by go_simp, by go_simp, by go_simp, by go_simp, by go_simp, by go_simp, by go_simp⟩
noncomputable def looseP (gs : List Gl) (ts : List Ti) (xs : List Pl) (t : Int) (ys : List Pl) : (Int × List Int) × Int :=
  if growB gs ts xs t ys = false then ((0, []), 1) else if 64 < ys.length then ((0, []), 4) else if holdsB ys.length (bondsL gs ts ys) t.toNat = true then ((0, []), 3) else ((6, intsI (weakR ys.length (bondsL gs ts ys)).2), 0)
section
variable {gs : List Gl} {ts : List Ti} {xs ys : List Pl} {t : Int}
theorem looseP_no (h : growB gs ts xs t ys = false) : (((0, []), 1) : (Int × List Int) × Int) = looseP gs ts xs t ys := by unfold looseP; rw [if_pos h]
theorem looseP_full (h : growB gs ts xs t ys = true) (h2 : 64 < ys.length) : (((0, []), 4) : (Int × List Int) × Int) = looseP gs ts xs t ys := by unfold looseP; rw [if_neg (by rw [h]; decide), if_pos h2]
theorem looseP_holds {n : Nat} (h : growB gs ts xs (n : Int) ys = true) (h2 : ¬ 64 < ys.length) (h3 : holdsB ys.length (bondsL gs ts ys) n = true) : (((0, []), 3) : (Int × List Int) × Int) = looseP gs ts xs (n : Int) ys := by
  unfold looseP; rw [if_neg (by rw [h]; decide), if_neg h2, Int.toNat_natCast, if_pos h3]
theorem looseP_yes {n : Nat} (h : growB gs ts xs (n : Int) ys = true) (h2 : ¬ 64 < ys.length) (h3 : holdsB ys.length (bondsL gs ts ys) n = false) : (((6, intsI (weakR ys.length (bondsL gs ts ys)).2), 0) : (Int × List Int) × Int) = looseP gs ts xs (n : Int) ys := by
  unfold looseP; rw [if_neg (by rw [h]; decide), if_neg h2, Int.toNat_natCast, if_neg (by rw [h3]; decide)]
theorem looseP_len (gs : List Gl) (ts : List Ti) (xs : List Pl) (t : Int) (ys : List Pl) : (looseP gs ts xs t ys).1.2.length ≤ 1073741824 := by
  unfold looseP
  split
  · simp
  · split
    · simp
    · split
      · simp
      · have := weakK_len ys.length (bondsL gs ts ys) (ys.length - 1)
        simp only [intsI, List.length_map, weakR]
        omega
end
set_option maxRecDepth 100000 in
set_option maxHeartbeats 4000000 in
theorem ProveLoose_any (G T A C : Option Addr) (n cg m ct q ca k cc : Nat) (gs : List Gl) (ts : List Ti) (xs ys : List Pl) (t : Int) (w : World) (h : SA w G n T m A q gs ts xs) (h2 : SA w G n T m C k gs ts ys) :
    Calls Tryz.prog 33 #[.agg #[.slice G n cg, .slice T m ct, .slice A q ca, .int .i64 t], .agg #[.slice C k cc]] w (PfLRes w (looseP gs ts xs t ys)) := by
  
  have hS := Lib.hid h
  have hA := Lib.hid h2
  have hk := h2.A.len
  clear h h2
  obtain ⟨r, hr⟩ : ∃ r, stabK gs ts xs t ys = r := ⟨_, rfl⟩
  have hrH := Lib.hid hr
  have hcase : (∃ c : Int, c ≠ 0 ∧ r = (false, c) ∧ (((0, []), c) : (Int × List Int) × Int) = looseP gs ts xs t ys) ∨ (growB gs ts xs t ys = true ∧ ¬ 64 < ys.length) := by
    cases hg : growB gs ts xs t ys
    · exact .inl ⟨1, by decide, by rw [← hr, stabK_no hg], looseP_no hg⟩
    · by_cases h64 : 64 < ys.length
      · exact .inl ⟨4, by decide, by rw [← hr, stabK_full hg h64], looseP_full hg h64⟩
      · exact .inr ⟨rfl, h64⟩
  clear hr
  rcases hcase with ⟨c, hc0, hrc, hcl⟩ | ⟨hg, h64⟩
  · subst hrc
    have hclH := Lib.hid hcl
    have hcd : (c != 0) = true := by simpa using hc0
    clear hcl
    go_enter Tryz.func33, Tryz.ntmps33
    go_wp2_with fail
    refine (stability_any _ _ _ _ _ _ _ _ _ _ _ _ gs ts xs ys t _ (hS.out.below (by exact bel_)) (hA.out.below (by exact bel_))).mono ?_
    rw [hrH.out]
    rintro e w1 ⟨rfl, hb1⟩
    obtain ⟨chb1, fhb1, shb1, thb1⟩ := bcell hb1
    have b2 := shb1 (w.heap.size + 2) (by go_simp)
    go_wp2
    refine bodyPost_ret (v := .tuple #[.agg #[.int .i64 0, .slice none 0 0, .slice none 0 0, .slice none 0 0, .slice none 0 0], .int .i64 c]) (by simp only [results, Tryz.results33]; go_simp) rfl ?_
    exact PfLRes.none hclH.out (by exact bel_)
  · obtain ⟨tn, rfl, ht, ht1, ht2⟩ := growB_temp hg
    have hgH := Lib.hid hg
    have hV := valid_of (growB_true hg).2
    have hbl := bondsL_len hV
    have hbq := Lib.hid (show BondsOk k (bondsL gs ts ys) by rw [← hk]; exact bondsOk hV)
    have hrr := hrH.out
    rw [← stabK_yes hg h64] at hrr
    clear hg ht
    cases hh : holdsB ys.length (bondsL gs ts ys) tn
    · rw [hh] at hrr
      subst hrr
      have hhH := Lib.hid hh
      have hk2 : 1 ≤ k := by
        rcases Nat.lt_or_ge k 2 with h2 | h2
        · rw [holdsB_few (by omega)] at hh; cases hh
        · omega
      clear hh
      go_enter Tryz.func33, Tryz.ntmps33
      go_wp2_with fail
      refine (stability_any _ _ _ _ _ _ _ _ _ _ _ _ gs ts xs ys tn _ (hS.out.below (by exact bel_)) (hA.out.below (by exact bel_))).mono ?_
      rw [hrH.out]
      rintro e w1 ⟨rfl, hb1⟩
      have hB1 := Lib.hid (show Below w.heap.size w w1 by exact bel_)
      have c1 := (hb1.cell (p := ⟨w.heap.size + 1, 0, none⟩) (by go_simp)).trans (show _ = some (Value.slice C k cc) by go_simp)
      have g1 := (hb1.cell (p := ⟨w.heap.size, 0, none⟩) (by go_simp)).trans (show _ = some (Value.slice G n cg) by go_simp)
      have g2 := (hb1.cell (p := ⟨w.heap.size, 1, none⟩) (by go_simp)).trans (show _ = some (Value.slice T m ct) by go_simp)
      have hQ1 := Lib.hid (show ResQ w1 (w.heap.size + 2) by have hz := (ResQ.new ((w.alloc (Obj.cells #[.slice G n cg, .slice T m ct, .slice A q ca, .int .i64 (tn : Int)] 69)).alloc (Obj.cells #[.slice C k cc] 30)) 65).below hb1 (by simp); simpa using hz)
      obtain ⟨chb1, fhb1, shb1, thb1⟩ := bcell hb1
      have b0 := shb1 w.heap.size (by go_simp)
      have b1 := shb1 (w.heap.size + 1) (by go_simp)
      have b2 := shb1 (w.heap.size + 2) (by go_simp)
      go_wp2
      refine wp_region_ord [(0, .q), (1, .q), (2, .q), (3, .q), (4, .q), (5, .q), (6, .g), (7, .g), (8, .q), (9, .q), (10, .q), (11, .q), (12, .q)] (by kernel_rfl) (by kernel_rfl) ?_
      simp only [pick, List.filterMap_cons, List.filterMap_nil, List.getElem?_toArray, List.getElem?_cons_zero, List.getElem?_cons_succ, Option.map_some]
      repeat (first | ((with_reducible refine wpD_p (fun K hK => ?_)); go_simp; refine hK _ ?_; clear hK K) | ((with_reducible refine wpD_q (fun K hK => ?_)); go_simp; (first | refine hK _ ?_ | (go_bits; refine hK _ ?_) | (go_bits; go_simp; refine hK _ ?_)); clear hK K))
      with_reducible refine wpD_g (fun K hK => ?_)
      go_simp
      refine ((hA.out.below (by exact bel_)).bonds hV).mono ?_
      rintro e w2 ⟨v, rfl, hrow, hb2⟩
      obtain ⟨B, cb, rfl, hB⟩ := rd_of_row hrow
      refine ⟨_, rfl, hb2, hK _ _ ?_⟩
      clear hK K hrow
      have hBH := Lib.hid hB
      clear hB
      with_reducible refine wpD_g (fun K hK => ?_)
      go_simp
      refine (weakest_any k B _ cb (bondsL gs ts ys) _ hBH.out hbq.out hk2 (by omega) (by omega)).mono ?_
      rintro e w3 ⟨v3, rfl, hrow3, hb3⟩
      refine ⟨_, rfl, hb3, hK _ _ ?_⟩
      have hrow3H := Lib.hid hrow3
      clear hK K hrow3
      repeat (first | ((with_reducible refine wpD_p (fun K hK => ?_)); go_simp; refine hK _ ?_; clear hK K) | ((with_reducible refine wpD_q (fun K hK => ?_)); go_simp; (first | refine hK _ ?_ | (go_bits; refine hK _ ?_) | (go_bits; go_simp; refine hK _ ?_)); clear hK K))
      with_reducible refine wpD_nil ?_
      have hb13 : Below w1.heap.size w1 w3 := (show Below w1.heap.size w1 w2 by exact bel_).trans (hb3.mono (by have := hb2.size; simp at this; omega))
      have hQ3 := hQ1.out.below hb13 b2
      obtain ⟨q0, q1, q2, q3, q4, q5, q6, q7, q8, q9, q10⟩ := hQ3
      have hs2 := hb2.size
      simp only [World.size_drew] at hs2
      have hB3 := Lib.hid (hB1.out.trans (hb13.mono hB1.out.size))
      have hlz := Lib.hid (looseP_yes hgH.out h64 hhH.out)
      obtain ⟨A3, c3, rfl⟩ := ownsRow_form hrow3H.out
      obtain ⟨N, hN⟩ : ∃ N, (intsI (weakR k (bondsL gs ts ys)).2).length = N := ⟨_, rfl⟩
      have hNH := Lib.hid hN
      rw [hN] at hrow3H ⊢
      clear hN hb13 hb3 hb2 chb1 fhb1 shb1 thb1 hb1 hQ1 c1 g1 g2 b0 b1
      go_wp2
      refine bodyPost_ret (v := .tuple #[.agg #[.int .i64 6, .slice none 0 0, .slice none 0 0, .slice A3 N c3, .slice none 0 0], .int .i64 0]) (by simp only [results, Tryz.results33]; go_simp) rfl ?_
      refine PfLRes.of hlz.out (by rw [hk]; exact hNH.out.symm) ?_ ?_
      · rw [hk]
        exact ownsRow_base (own_set5 hrow3H.out (s := w.heap.size + 2) (by omega) _ _ _ _ _) (by omega)
      · exact below_set5 hB3.out (by omega) _ _ _ _ _
    · rw [hh] at hrr
      subst hrr
      have hhH := Lib.hid hh
      clear hh
      go_enter Tryz.func33, Tryz.ntmps33
      go_wp2_with fail
      refine (stability_any _ _ _ _ _ _ _ _ _ _ _ _ gs ts xs ys tn _ (hS.out.below (by exact bel_)) (hA.out.below (by exact bel_))).mono ?_
      rw [hrH.out]
      rintro e w1 ⟨rfl, hb1⟩
      obtain ⟨chb1, fhb1, shb1, thb1⟩ := bcell hb1
      have b2 := shb1 (w.heap.size + 2) (by go_simp)
      go_wp2
      refine bodyPost_ret (v := .tuple #[.agg #[.int .i64 0, .slice none 0 0, .slice none 0 0, .slice none 0 0, .slice none 0 0], .int .i64 3]) (by simp only [results, Tryz.results33]; go_simp) rfl ?_
      exact PfLRes.none (looseP_holds hgH.out h64 hhH.out) (by exact bel_)
end Go.Proofs.YtmhgjgclclnmaaaGreat
/- Walk: ProveLoose, the reference. -/

namespace Go.Proofs.YtmhgjgclclnmaaaGreat
open Go.RowKit Go.Shelf
attribute [local go_sem] BelowBy.cell BelowBy.cell_drew stillUpon givesUpon BelowBy.cell_drew2 BelowBy.cell_drew3

noncomputable def smallI (gs : List Gl) (ts : List Ti) (xs : List Pl) (t : Int) (ys : List Pl) : Int := if growB gs ts xs t ys = false then 1 else if 64 < ys.length then 4 else 0
set_option maxHeartbeats 1000000 in
theorem l11Small_at {o p pa oa : Nat} {gs : List Gl} {ts : List Ti} {xs ys : List Pl} {t : Int} {w : World} (h : SysAt w p o gs ts xs t) (ha : AsmAt w pa oa ys) (hq : ys.length ≤ 1073741824) {r : Int} (hr : smallI gs ts xs t ys = r) :
    Calls Tryz.prog 58 #[.pointer (some ⟨p, o, none⟩), .pointer (some ⟨pa, oa, none⟩)] w fun e w' => e = .returned (.int .i64 r) ∧ Below w.heap.size w w' := by
  obtain ⟨A, k, c, y1, y2⟩ := ha.tl
  have hk := y2.len
  have hlt := ha.lt
  have hS := Lib.hid h
  have hA := Lib.hid ha
  clear h ha y2
  subst hr
  unfold smallI
  cases hg : growB gs ts xs t ys
  · have hgH := Lib.hid hg
    clear hg
    go_enter Tryz.func58, Tryz.ntmps58
    go_wp2_with fail
    refine (l08Asked_at hS.out hA.out hq hgH.out).mono ?_
    rintro e w1 ⟨rfl, hb1⟩
    go_wp2
    go_ret
    exact ⟨rfl, by exact bel_⟩
  · have hgH := Lib.hid hg
    clear hg
    by_cases h64 : 64 < ys.length
    · have h64i : (64 : Int) < (k : Int) := by omega
      go_enter Tryz.func58, Tryz.ntmps58
      go_wp2_with fail
      refine (l08Asked_at hS.out hA.out hq hgH.out).mono ?_
      rintro e w1 ⟨rfl, hb1⟩
      have y3 := (hb1.cell (p := ⟨pa, oa, none⟩) hlt).trans y1
      have l3 := Nat.lt_of_lt_of_le hlt hb1.size
      simp only [codeB_true]
      go_wp2
      go_ret
      exact ⟨rfl, by exact bel_⟩
    · have h64i : ¬ (64 : Int) < (k : Int) := by omega
      go_enter Tryz.func58, Tryz.ntmps58
      go_wp2_with fail
      refine (l08Asked_at hS.out hA.out hq hgH.out).mono ?_
      rintro e w1 ⟨rfl, hb1⟩
      have y3 := (hb1.cell (p := ⟨pa, oa, none⟩) hlt).trans y1
      have l3 := Nat.lt_of_lt_of_le hlt hb1.size
      simp only [codeB_true]
      go_wp2
      go_ret
      exact ⟨rfl, by exact bel_⟩
set_option maxRecDepth 100000 in
set_option maxHeartbeats 4000000 in
theorem sProveLoose_any (G T A C : Option Addr) (n cg m ct q ca k cc : Nat) (gs : List Gl) (ts : List Ti) (xs ys : List Pl) (t : Int) (w : World) (h : SA w G n T m A q gs ts xs) (h2 : SA w G n T m C k gs ts ys) :
    Calls Tryz.prog 32 #[.agg #[.slice G n cg, .slice T m ct, .slice A q ca, .int .i64 t], .agg #[.slice C k cc]] w (PfLRes w (looseP gs ts xs t ys)) := by
  
  have hS := Lib.hid (show SysAt (((w.alloc (Obj.cells #[.slice G n cg, .slice T m ct, .slice A q ca, .int .i64 t] 69)).alloc (Obj.cells #[.slice C k cc] 30)).alloc (Obj.cells #[.int .i64 0, .slice none 0 0, .slice none 0 0, .slice none 0 0, .slice none 0 0] 65)) w.heap.size 0 gs ts xs t from (h.sysbox cg ct ca t).below (bl_al (bl_al (bl_refl _) _) _))
  have hC := Lib.hid (show AsmAt (((w.alloc (Obj.cells #[.slice G n cg, .slice T m ct, .slice A q ca, .int .i64 t] 69)).alloc (Obj.cells #[.slice C k cc] 30)).alloc (Obj.cells #[.int .i64 0, .slice none 0 0, .slice none 0 0, .slice none 0 0, .slice none 0 0] 65)) (w.heap.size + 1) 0 ys from ⟨by simp, C, k, cc, by go_simp, h2.A.below RPl.stable (by exact bel_)⟩)
  have hk := h2.A.len
  have hkq := h2.q
  have hgm := h.gm
  have htm := h.tm
  clear h h2
  obtain ⟨r, hr⟩ : ∃ r, smallI gs ts xs t ys = r := ⟨_, rfl⟩
  have hrH := Lib.hid hr
  have hcase : (∃ c : Int, c ≠ 0 ∧ r = c ∧ (((0, []), c) : (Int × List Int) × Int) = looseP gs ts xs t ys) ∨ (r = 0 ∧ growB gs ts xs t ys = true ∧ ¬ 64 < ys.length) := by
    unfold smallI at hr
    cases hg : growB gs ts xs t ys
    · rw [hg] at hr
      exact .inl ⟨1, by decide, by rw [← hr]; rfl, looseP_no hg⟩
    · rw [hg, if_neg (by decide)] at hr
      by_cases h64 : 64 < ys.length
      · rw [if_pos h64] at hr
        exact .inl ⟨4, by decide, hr.symm, looseP_full hg h64⟩
      · rw [if_neg h64] at hr
        exact .inr ⟨hr.symm, rfl, h64⟩
  clear hr
  rcases hcase with ⟨c, hc0, rfl, hcl⟩ | ⟨rfl, hg, h64⟩
  · have hclH := Lib.hid hcl
    have hcd : (r != 0) = true := by simpa using hc0
    clear hcl
    go_enter Tryz.func32, Tryz.ntmps32
    go_wp2_with fail
    refine (l11Small_at hS.out hC.out (by omega) hrH.out).mono ?_
    rintro e w1 ⟨rfl, hb1⟩
    obtain ⟨chb1, fhb1, shb1, thb1⟩ := bcell hb1
    have b2 := shb1 (w.heap.size + 2) (by go_simp)
    go_wp2
    refine bodyPost_ret (v := .tuple #[.agg #[.int .i64 0, .slice none 0 0, .slice none 0 0, .slice none 0 0, .slice none 0 0], .int .i64 r]) (by simp only [results, Tryz.results32]; go_simp) rfl ?_
    exact PfLRes.none hclH.out (by exact bel_)
  · obtain ⟨tn, rfl, ht, ht1, ht2⟩ := growB_temp hg
    have hgH := Lib.hid hg
    have hV := valid_of (growB_true hg).2
    have hbl := bondsL_len hV
    have hbq := Lib.hid (show BondsOk k (bondsL gs ts ys) by rw [← hk]; exact bondsOk hV)
    clear hg ht
    by_cases hk2 : k < 2
    · have hk2i : (k : Int) < 2 := by omega
      have hhH := Lib.hid (holdsB_few (n := ys.length) (by omega) (bondsL gs ts ys) tn)
      go_enter Tryz.func32, Tryz.ntmps32
      go_wp2_with fail
      refine (l11Small_at hS.out hC.out (by omega) hrH.out).mono ?_
      rintro e w1 ⟨rfl, hb1⟩
      have y5 := (hb1.cell (p := ⟨w.heap.size + 1, 0, none⟩) (by go_simp)).trans (show _ = some (Value.slice C k cc) by go_simp)
      obtain ⟨chb1, fhb1, shb1, thb1⟩ := bcell hb1
      have b1 := shb1 (w.heap.size + 1) (by go_simp)
      have b2 := shb1 (w.heap.size + 2) (by go_simp)
      go_wp2
      refine bodyPost_ret (v := .tuple #[.agg #[.int .i64 0, .slice none 0 0, .slice none 0 0, .slice none 0 0, .slice none 0 0], .int .i64 3]) (by simp only [results, Tryz.results32]; go_simp) rfl ?_
      exact PfLRes.none (looseP_holds hgH.out h64 hhH.out) (by exact bel_)
    · have hk2i : ¬ (k : Int) < 2 := by omega
      have hhw := holdsB_weak (n := ys.length) (by omega) (bondsL gs ts ys) tn
      rw [hk] at hhw
      have hhwH := Lib.hid hhw
      clear hhw
      obtain ⟨WR, hWR⟩ : ∃ WR, (weakR k (bondsL gs ts ys)).1 = WR := ⟨_, rfl⟩
      rw [hWR] at hhwH
      go_enter Tryz.func32, Tryz.ntmps32
      go_wp2_with fail
      refine (l11Small_at hS.out hC.out (by omega) hrH.out).mono ?_
      rintro e w1 ⟨rfl, hb1⟩
      have hB1 := Lib.hid (show Below w.heap.size w w1 by exact bel_)
      have hS1 := Lib.hid (hS.out.below hb1)
      have hC1 := Lib.hid (hC.out.below hb1)
      have y5 := (hb1.cell (p := ⟨w.heap.size + 1, 0, none⟩) (by go_simp)).trans (show _ = some (Value.slice C k cc) by go_simp)
      have y6 := (hb1.cell (p := ⟨w.heap.size, 3, none⟩) (by go_simp)).trans (show _ = some (Value.int .i64 (tn : Int)) by go_simp)
      have hQ1 := Lib.hid (show ResQ w1 (w.heap.size + 2) by have hz := (ResQ.new ((w.alloc (Obj.cells #[.slice G n cg, .slice T m ct, .slice A q ca, .int .i64 (tn : Int)] 69)).alloc (Obj.cells #[.slice C k cc] 30)) 65).below hb1 (by simp); simpa using hz)
      obtain ⟨chb1, fhb1, shb1, thb1⟩ := bcell hb1
      have b0 := shb1 w.heap.size (by go_simp)
      have b1 := shb1 (w.heap.size + 1) (by go_simp)
      have b2 := shb1 (w.heap.size + 2) (by go_simp)
      go_wp2
      refine wp_region_ord [(0, .q), (1, .q), (2, .q), (3, .q), (4, .g), (5, .g), (6, .q), (7, .q), (8, .q), (9, .q), (10, .q)] (by kernel_rfl) (by kernel_rfl) ?_
      simp only [pick, List.filterMap_cons, List.filterMap_nil, List.getElem?_toArray, List.getElem?_cons_zero, List.getElem?_cons_succ, Option.map_some]
      repeat (first | ((with_reducible refine wpD_p (fun K hK => ?_)); go_simp; refine hK _ ?_; clear hK K) | ((with_reducible refine wpD_q (fun K hK => ?_)); go_simp; (first | refine hK _ ?_ | (go_bits; refine hK _ ?_) | (go_bits; go_simp; refine hK _ ?_)); clear hK K))
      with_reducible refine wpD_g (fun K hK => ?_)
      go_simp
      refine (l06Bonds_any _ _ gs ts ys _ (hS1.out.sat.s.below (by exact bel_)) (hC1.out.below (by exact bel_)) hV).mono ?_
      rintro e w2 ⟨v, rfl, hrow, hb2⟩
      obtain ⟨B, cb, rfl, hB⟩ := rd_of_row hrow
      refine ⟨_, rfl, hb2, hK _ _ ?_⟩
      clear hK K hrow
      have hBH := Lib.hid hB
      clear hB
      with_reducible refine wpD_g (fun K hK => ?_)
      go_simp
      refine (l07Weakest_any k B _ cb (bondsL gs ts ys) _ hBH.out hbq.out (by omega) (by omega) (by omega)).mono ?_
      rintro e w3 ⟨v3, rfl, hrow3, hb3⟩
      rw [hWR]
      refine ⟨_, rfl, hb3, hK _ _ ?_⟩
      have hrow3H := Lib.hid hrow3
      clear hK K hrow3
      repeat (first | ((with_reducible refine wpD_p (fun K hK => ?_)); go_simp; refine hK _ ?_; clear hK K) | ((with_reducible refine wpD_q (fun K hK => ?_)); go_simp; (first | refine hK _ ?_ | (go_bits; refine hK _ ?_) | (go_bits; go_simp; refine hK _ ?_)); clear hK K))
      with_reducible refine wpD_nil ?_
      have hb13 : Below w1.heap.size w1 w3 := (show Below w1.heap.size w1 w2 by exact bel_).trans (hb3.mono (by have := hb2.size; simp at this; omega))
      have hQ3 := Lib.hid (hQ1.out.below hb13 b2)
      obtain ⟨q0, q1, q2, q3, q4, q5, q6, q7, q8, q9, q10⟩ := hQ3.out
      have y7 := (hb13.cell (p := ⟨w.heap.size, 3, none⟩) b0).trans y6
      have l7 : w.heap.size < w3.heap.size := by omega
      have hs2 := hb2.size
      simp only [World.size_drew] at hs2
      have hB3 := Lib.hid (hB1.out.trans (hb13.mono hB1.out.size))
      obtain ⟨A3, c3, rfl⟩ := ownsRow_form hrow3H.out
      obtain ⟨N, hN⟩ : ∃ N, (intsI (weakR k (bondsL gs ts ys)).2).length = N := ⟨_, rfl⟩
      have hNH := Lib.hid hN
      rw [hN] at hrow3H ⊢
      clear hN hb13 hb3 hb2 chb1 fhb1 shb1 thb1 hb1 hQ1 y5 y6 b0 b1
      by_cases hge : (tn : Int) ≤ WR
      · have hlz := Lib.hid (looseP_holds hgH.out h64 (by rw [hk, hhwH.out]; exact decide_eq_true hge))
        go_wp2
        refine bodyPost_ret (v := .tuple #[.agg #[.int .i64 0, .slice none 0 0, .slice none 0 0, .slice none 0 0, .slice none 0 0], .int .i64 3]) (by simp only [results, Tryz.results32]; go_simp) rfl ?_
        refine PfLRes.none hlz.out ?_
        first | exact hB3.out | exact below_set5 hB3.out (by omega) _ _ _ _ _
      · have hlz := Lib.hid (looseP_yes hgH.out h64 (by rw [hk, hhwH.out]; exact decide_eq_false hge))
        go_wp2
        refine bodyPost_ret (v := .tuple #[.agg #[.int .i64 6, .slice none 0 0, .slice none 0 0, .slice A3 N c3, .slice none 0 0], .int .i64 0]) (by simp only [results, Tryz.results32]; go_simp) rfl ?_
        refine PfLRes.of hlz.out (by rw [hk]; exact hNH.out.symm) ?_ ?_
        · rw [hk]
          exact ownsRow_base (own_set5 hrow3H.out (s := w.heap.size + 2) (by omega) _ _ _ _ _) (by omega)
        · exact below_set5 hB3.out (by omega) _ _ _ _ _
end Go.Proofs.YtmhgjgclclnmaaaGreat
