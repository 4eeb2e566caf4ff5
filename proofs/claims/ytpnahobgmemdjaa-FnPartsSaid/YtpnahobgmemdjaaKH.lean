import Derived.Test.YtpnahobgmemdjaaHTo
import Derived.Test.YtpnahobgmemdjaaW15
import Derived.Laws.IdiomStrings
import Derived.Laws.Concat
import Derived.Test.YtpnahobgmemdjaaKC
import Derived.Test.YtpnahobgmemdjaaPlC
set_option linter.unusedSimpArgs false
set_option linter.unusedVariables false
/- Walks: the harness' marks: what is laid of arguments and results is overwritten, and nothing else. -/


namespace Go.Proofs.Ytpnahobgmemdjaa
open Go.RowKit
attribute [local go_sem] BelowBy.cell BelowBy.cell_drew stillUpon givesUpon

/-- from w to w' the blocks from lo on and below hi may have turned; what is new lies behind -/
structure Mk (lo hi : Nat) (w w' : World) : Prop where
  below : Below lo w w'
  size : w.heap.size ≤ w'.heap.size
  keep : ∀ k, hi ≤ k → k < w.heap.size → w'.heap[k]? = w.heap[k]?
theorem Mk.refl (lo hi : Nat) (w : World) : Mk lo hi w w := ⟨Below.refl _ _, Nat.le_refl _, fun _ _ _ => rfl⟩
theorem Mk.trans {lo hi : Nat} {a b c : World} (h : Mk lo hi a b) (k : Mk lo hi b c) : Mk lo hi a c :=
  ⟨h.below.trans k.below, Nat.le_trans h.size k.size, fun i h1 h2 => (k.keep i h1 (Nat.lt_of_lt_of_le h2 h.size)).trans (h.keep i h1 h2)⟩
theorem Mk.of_below {lo hi : Nat} {a b : World} (h : Below a.heap.size a b) (hl : lo ≤ a.heap.size) : Mk lo hi a b := ⟨h.mono hl, h.size, fun i _ h2 => h.block i h2⟩
theorem Mk.set {lo hi : Nat} {a b : World} (h : Mk lo hi a b) {p : Addr} (h1 : lo ≤ p.block) (h2 : p.block < hi) (u : Value) : Mk lo hi a (b.setCell p u) :=
  ⟨h.below.setCell h1 u, by simpa using h.size, fun i h3 h4 => (Below.heap_setCell _ _ _ _ (by omega)).trans (h.keep i h3 h4)⟩
theorem Mk.bl {lo hi : Nat} {a b c : World} (h : Mk lo hi a b) (k : Below b.heap.size b c) (hl : lo ≤ a.heap.size) : Mk lo hi a c := h.trans (Mk.of_below k (Nat.le_trans hl h.size))
theorem Mk.weaken {lo hi lo' hi' : Nat} {a b : World} (h : Mk lo hi a b) (h1 : lo' ≤ lo) (h2 : hi ≤ hi') : Mk lo' hi' a b := ⟨h.below.mono h1, h.size, fun i h3 h4 => h.keep i (by omega) h4⟩

/-- a row of its own that the call may overwrite -/
def MkRow (T : TypeId) (size lo hi : Nat) (w : World) (A : Option Addr) (n : Nat) : Prop :=
  0 < n → ∃ g N f, A = some ⟨g, 0, none⟩ ∧ lo ≤ g ∧ g < hi ∧ w.rowIs g T N f ∧ n * size ≤ N
theorem OwSl.mk_ {α : Type} {T size : Nat} {R : World → Nat → Nat → α → Prop} {w : World} {lo : Nat} {A : Option Addr} {n : Nat} {xs : List α} (h : OwSl T size R w lo A n xs) : MkRow T size lo w.heap.size w A n := fun _ => by
  obtain ⟨g, f, hA, hlo, hr, _⟩ := h.row
  exact ⟨g, _, f, hA, hlo, hr.lt, hr, Nat.le_refl _⟩
theorem mkRow_of_owns {w : World} {base size n c : Nat} {e : TypeId} {A : Option Addr} {xs : List Value} (h : w.ownsRow base e size (.slice A n c) n xs) : MkRow e size base w.heap.size w A n := fun hn => by
  rcases h.2 with ⟨h, h0⟩ | ⟨g, cap, cur, hv, hb, hh, hnc, hm, hs, ht⟩
  · omega
  · injection hv with h1 h2 h3
    exact ⟨g, cur.size, fun i => cur.getD i undef, h1, hb, (Array.getElem?_eq_some_iff.1 hh).1, ⟨cur, hh, rfl, fun i hi => by simp [hi]⟩, by rw [hs]; exact Nat.mul_le_mul_right _ hnc⟩
theorem MkRow.keep {T : TypeId} {size lo hi : Nat} {w w' : World} {A : Option Addr} {n : Nat} (h : MkRow T size lo hi w A n) (hk : ∀ k, lo ≤ k → k < hi → w'.heap[k]? = w.heap[k]?) : MkRow T size lo hi w' A n := fun hn => by
  obtain ⟨g, N, f, h1, h2, h3, h4, h5⟩ := h hn
  exact ⟨g, N, f, h1, h2, h3, h4.of_block (hk g h2 h3), h5⟩
theorem MkRow.below {T : TypeId} {size lo hi : Nat} {w w' : World} {A : Option Addr} {n : Nat} (h : MkRow T size lo hi w A n) (hb : Below w.heap.size w w') (hh : hi ≤ w.heap.size) : MkRow T size lo hi w' A n := h.keep fun k _ h2 => hb.block k (by omega)
theorem MkRow.mk {T : TypeId} {size lo hi lo' hi' : Nat} {w w' : World} {A : Option Addr} {n : Nat} (h : MkRow T size lo hi w A n) (hb : Mk lo' hi' w w') (h1 : hi' ≤ lo) (hh : hi ≤ w.heap.size) : MkRow T size lo hi w' A n := h.keep fun k h2 h3 => hb.keep k (by omega) (by omega)
theorem MkRow.set {T : TypeId} {size lo hi : Nat} {w : World} {A : Option Addr} {n : Nat} (h : MkRow T size lo hi w A n) (b k : Nat) (u : Value) : MkRow T size lo hi (w.setCell ⟨b, k, none⟩ u) A n := fun hn => by
  obtain ⟨g, N, f, h1, h2, h3, h4, h5⟩ := h hn
  by_cases e : g = b
  · subst e
    exact ⟨g, N, _, h1, h2, h3, h4.set k u, h5⟩
  · exact ⟨g, N, f, h1, h2, h3, h4.of_block (Below.heap_setCell _ _ _ _ e), h5⟩
/-- rows of tiles, with the rows of their sides -/
def MkTiles (TT TI lo hi : Nat) (w : World) (A : Option Addr) (m : Nat) : Prop :=
  0 < m → ∃ g N f, A = some ⟨g, 0, none⟩ ∧ lo ≤ g ∧ g < hi ∧ w.rowIs g TT N f ∧ m * 2 ≤ N ∧ ∀ k, k < m → ∃ A' n', f (k * 2 + 1) = .slice A' n' n' ∧ n' ≤ 1073741824 ∧ MkRow TI 1 lo hi w A' n'
theorem OwSl.mkTiles {TT TI lo : Nat} {w : World} {A : Option Addr} {m : Nat} {ts : List Ti} (h : OwSl TT 2 (ROTi TI lo) w lo A m ts) (hs : ∀ e ∈ ts, e.sides.length ≤ 1073741824) : MkTiles TT TI lo w.heap.size w A m := fun _ => by
  obtain ⟨g, f, hA, hlo, hr, he⟩ := h.row
  refine ⟨g, _, f, hA, hlo, hr.lt, hr, Nat.le_refl _, fun k hk => ?_⟩
  have hk' : k < ts.length := by rw [h.len]; exact hk
  obtain ⟨h1, A', n', h2, h3⟩ := he k _ (List.getElem?_eq_getElem hk')
  have h4 := hr.cell (i := k * 2 + 1) (by omega)
  rw [h2] at h4
  exact ⟨A', n', (Option.some.inj h4).symm, by rw [← h3.len]; exact hs _ (List.getElem_mem hk'), h3.mk_⟩
theorem MkTiles.keep {TT TI lo hi : Nat} {w w' : World} {A : Option Addr} {m : Nat} (h : MkTiles TT TI lo hi w A m) (hk : ∀ k, lo ≤ k → k < hi → w'.heap[k]? = w.heap[k]?) : MkTiles TT TI lo hi w' A m := fun hm => by
  obtain ⟨g, N, f, h1, h2, h3, h4, h5, h6⟩ := h hm
  refine ⟨g, N, f, h1, h2, h3, h4.of_block (hk g h2 h3), h5, fun k hk' => ?_⟩
  obtain ⟨A', n', g1, g2, g3⟩ := h6 k hk'
  exact ⟨A', n', g1, g2, g3.keep hk⟩
theorem MkTiles.below {TT TI lo hi : Nat} {w w' : World} {A : Option Addr} {m : Nat} (h : MkTiles TT TI lo hi w A m) (hb : Below w.heap.size w w') (hh : hi ≤ w.heap.size) : MkTiles TT TI lo hi w' A m := h.keep fun k _ h2 => hb.block k (by omega)
theorem MkTiles.mk {TT TI lo hi lo' hi' : Nat} {w w' : World} {A : Option Addr} {n : Nat} (h : MkTiles TT TI lo hi w A n) (hb : Mk lo' hi' w w') (h1 : hi' ≤ lo) (hh : hi ≤ w.heap.size) : MkTiles TT TI lo hi w' A n := h.keep fun k h2 h3 => hb.keep k (by omega) (by omega)
theorem MkTiles.set {TT TI lo hi : Nat} {w : World} {A : Option Addr} {m : Nat} (hne : TT ≠ TI) (h : MkTiles TT TI lo hi w A m) {b k : Nat} {u : Value} (hb : ∃ N f, w.rowIs b TI N f) : MkTiles TT TI lo hi (w.setCell ⟨b, k, none⟩ u) A m := fun hm => by
  obtain ⟨g, N, f, h1, h2, h3, h4, h5, h6⟩ := h hm
  have hgb : g ≠ b := by
    rintro rfl
    obtain ⟨N', f', c', hc', _⟩ := hb
    obtain ⟨c, hc, _⟩ := h4
    rw [hc] at hc'
    injection hc' with hc'
    injection hc' with _ ht
    exact hne ht
  refine ⟨g, N, f, h1, h2, h3, h4.of_block (Below.heap_setCell _ _ _ _ hgb), h5, fun k' hk' => ?_⟩
  obtain ⟨A', n', g1, g2, g3⟩ := h6 k' hk'
  exact ⟨A', n', g1, g2, g3.set b k u⟩
theorem MkTiles.setName {TT TI lo hi : Nat} {w : World} {A : Option Addr} {m : Nat} (hne : TT ≠ TI) (h : MkTiles TT TI lo hi w A m) {b : Nat} (hA : A = some ⟨b, 0, none⟩) (k : Nat) (u : Value) : MkTiles TT TI lo hi (w.setCell ⟨b, k * 2, none⟩ u) A m := fun hm => by
  obtain ⟨g, N, f, h1, h2, h3, h4, h5, h6⟩ := h hm
  obtain rfl : g = b := by
    rw [hA] at h1
    injection h1 with h1
    injection h1 with h1
    exact h1.symm
  refine ⟨g, N, _, h1, h2, h3, h4.set (k * 2) u, h5, fun k' hk' => ?_⟩
  obtain ⟨A', n', g1, g2, g3⟩ := h6 k' hk'
  exact ⟨A', n', by rw [if_neg (by omega)]; exact g1, g2, g3.set g (k * 2) u⟩

end Go.Proofs.Ytpnahobgmemdjaa
/- Walks: the harness' marks. -/



namespace Go.Proofs.Ytpnahobgmemdjaa
open Go.RowKit
attribute [local go_sem] BelowBy.cell BelowBy.cell_drew stillUpon givesUpon

/-- what a mark leaves -/
def MkRes (lo hi : Nat) (w : World) (r : Nat) (e : Ending) (w' : World) : Prop := e = .returned (.int .i64 (r : Int)) ∧ Mk lo hi w w'
def MkRes2 (lo hi : Nat) (w : World) (k top : Nat) (e : Ending) (w' : World) : Prop := ∃ r : Nat, e = .returned (.int .i64 (r : Int)) ∧ k ≤ r ∧ r ≤ top ∧ Mk lo hi w w'
/-- markText -/
def digB (j : Nat) : UInt8 := UInt8.ofNat (48 + j % 10)
def mkDig : Nat → Nat → ByteArray → ByteArray
  | 0, _, s => s
  | f + 1, j, s => if j = 0 then s else mkDig f (j / 10) (⟨[digB j].toArray⟩ ++ s)
def markS (k : Nat) : ByteArray := if k = 0 then ⟨#[109, 48]⟩ else ⟨#[109]⟩ ++ mkDig (k + 1) k ⟨#[]⟩
theorem mkDig_zero (f : Nat) (s : ByteArray) : mkDig f 0 s = s := by cases f <;> simp [mkDig]
theorem mkDig_pos (f j : Nat) (s : ByteArray) (hj : 0 < j) : mkDig (f + 1) j s = mkDig f (j / 10) (⟨[digB j].toArray⟩ ++ s) := by
  simp only [mkDig]; rw [if_neg (by omega)]
theorem size_snoc1 (u : UInt8) (s : ByteArray) : ((⟨[u].toArray⟩ : ByteArray) ++ s).size = s.size + 1 := by
  rw [ByteArray.size_append]; show 1 + s.size = _; omega
theorem run_digit (t t9 u : TypeId) (ht : Try.prog.underlying t = some (.slice u)) (hu : Try.prog.underlying u = some (.int .u8)) (h9 : Try.prog.underlying t9 = some .string) (j : Nat) (W : World) :
    (convert t t9 (.slice (some ⟨W.heap.size, 0, none⟩) 1 1)).run Try.prog (W.alloc (.cells #[.int .u8 (48 + (j : Int) % 10)] u)) = .ok (.string ⟨[digB j].toArray⟩) (W.alloc (.cells #[.int .u8 (48 + (j : Int) % 10)] u)) := by
  have := run_convert_bytes_back (P := Try.prog) (W.alloc (.cells #[.int .u8 (48 + (j : Int) % 10)] u)) t t9 u ⟨W.heap.size, 0, none⟩ 1 [digB j] ht hu h9 (fun i hi => by
    obtain rfl : i = 0 := by simpa using hi
    simp [Addr.add, digB]
    omega)
  exact this
def MarkT (w : World) (k : Nat) (e : Ending) (w' : World) : Prop := e = .returned (.string (markS k)) ∧ Below w.heap.size w w'
end Go.Proofs.Ytpnahobgmemdjaa
/- Walks: the harness' marks on slices of structs of numbers, what they leave, and what 'held' says of it. -/


namespace Go.Proofs.Ytpnahobgmemdjaa
open Go.RowKit
attribute [local go_sem] BelowBy.cell BelowBy.cell_drew stillUpon givesUpon

/-- the cells bear the numbers from k on -/
def Marked (T : TypeId) (size lo hi : Nat) (w : World) (A : Option Addr) (n k : Nat) : Prop :=
  0 < n → ∃ g N f, A = some ⟨g, 0, none⟩ ∧ lo ≤ g ∧ g < hi ∧ w.rowIs g T N f ∧ n * size ≤ N ∧ ∀ j, j < n * size → f j = .int .i64 ((k + j : Nat) : Int)
theorem Marked.keep {T : TypeId} {size lo hi k : Nat} {w w' : World} {A : Option Addr} {n : Nat} (h : Marked T size lo hi w A n k) (hk : ∀ k, lo ≤ k → k < hi → w'.heap[k]? = w.heap[k]?) : Marked T size lo hi w' A n k := fun hn => by
  obtain ⟨g, N, f, h1, h2, h3, h4, h5, h6⟩ := h hn
  exact ⟨g, N, f, h1, h2, h3, h4.of_block (hk g h2 h3), h5, h6⟩
theorem Marked.below {T : TypeId} {size lo hi k : Nat} {w w' : World} {A : Option Addr} {n : Nat} (h : Marked T size lo hi w A n k) (hb : Below w.heap.size w w') (hh : hi ≤ w.heap.size) : Marked T size lo hi w' A n k := h.keep fun k _ h2 => hb.block k (by omega)
def MkCore (T : TypeId) (size g N n k : Nat) (w : World) (r : Nat) (e : Ending) (w' : World) : Prop := e = .returned (.int .i64 (r : Int)) ∧ Mk g (g + 1) w w' ∧ ∃ f, w'.rowIs g T N f ∧ ∀ j, j < n * size → f j = .int .i64 ((k + j : Nat) : Int)
def MkResC (T : TypeId) (size lo hi : Nat) (A : Option Addr) (n k : Nat) (w : World) (r : Nat) (e : Ending) (w' : World) : Prop := e = .returned (.int .i64 (r : Int)) ∧ Mk lo hi w w' ∧ Marked T size lo hi w' A n k

end Go.Proofs.Ytpnahobgmemdjaa
/- Walks: the harness' marks on sets and assemblies. -/

namespace Go.Proofs.Ytpnahobgmemdjaa
open Go.RowKit
attribute [local go_sem] BelowBy.cell BelowBy.cell_drew stillUpon givesUpon

theorem rowIs_size {w : World} {g N M : Nat} {T : TypeId} {f f' : Nat → Value} (h : w.rowIs g T N f) (k : w.rowIs g T M f') : N = M := by
  obtain ⟨c, hc, hs, _⟩ := h
  obtain ⟨c', hc', hs', _⟩ := k
  rw [hc] at hc'
  injection hc' with hc'
  injection hc' with hc'
  rw [← hs, ← hs', hc']
theorem rowIs_ne {w : World} {g b N M : Nat} {T U : TypeId} {f f' : Nat → Value} (h : w.rowIs g T N f) (k : w.rowIs b U M f') (hne : T ≠ U) : g ≠ b := by
  rintro rfl
  obtain ⟨c, hc, _⟩ := h
  obtain ⟨c', hc', _⟩ := k
  rw [hc] at hc'
  injection hc' with hc'
  injection hc' with _ ht
  exact hne ht
end Go.Proofs.Ytpnahobgmemdjaa
/- Small words for the laws' walks. -/


namespace Go.Proofs.Ytpnahobgmemdjaa
open Go.RowKit
theorem MkRow.lo_ {T : TypeId} {size lo lo' hi : Nat} {w : World} {A : Option Addr} {n : Nat} (h : MkRow T size lo hi w A n) (hl : lo' ≤ lo) : MkRow T size lo' hi w A n := fun hn => by
  obtain ⟨g, N, f, h1, h2, h3, h4, h5⟩ := h hn
  exact ⟨g, N, f, h1, Nat.le_trans hl h2, h3, h4, h5⟩
theorem MkTiles.lo_ {TT TI lo lo' hi : Nat} {w : World} {A : Option Addr} {m : Nat} (h : MkTiles TT TI lo hi w A m) (hl : lo' ≤ lo) : MkTiles TT TI lo' hi w A m := fun hm => by
  obtain ⟨g, N, f, h1, h2, h3, h4, h5, h6⟩ := h hm
  refine ⟨g, N, f, h1, Nat.le_trans hl h2, h3, h4, h5, fun k hk => ?_⟩
  obtain ⟨A', n', g1, g2, g3⟩ := h6 k hk
  exact ⟨A', n', g1, g2, g3.lo_ hl⟩
theorem ownsRow_mk {w w' : World} {base lo hi : Nat} {e : TypeId} {size : Nat} {v : Value} {n : Nat} {xs : List Value} (h : w.ownsRow base e size v n xs) (hm : Mk lo hi w w') (hl : hi ≤ base) : w'.ownsRow base e size v n xs :=
  ⟨h.1, h.2.imp id (fun ⟨g, cap, cur, h1, h2, h3, h4⟩ => ⟨g, cap, cur, h1, h2, (hm.keep g (by omega) (Array.getElem?_eq_some_iff.1 h3).1).trans h3, h4⟩)⟩
end Go.Proofs.Ytpnahobgmemdjaa
/- Walks: the harness' marks on a result that is an assembly, and what 'held' says of it. -/



namespace Go.Proofs.Ytpnahobgmemdjaa
open Go.RowKit
attribute [local go_sem] BelowBy.cell BelowBy.cell_drew stillUpon givesUpon

theorem rdPl {W : World} {base : Nat} {A : Option Addr} {n c : Nat} {bs : List Pl} (h : W.ownsRow base 38 3 (.slice A n c) n (plCells bs)) (hn : n = bs.length := by rfl) : RdSl 3 RPl W A n bs := by
  subst hn
  obtain ⟨A', cap, e, h'⟩ := rdP_of_row h
  injection e with e1 e2 e3
  subst e1
  exact h'
/-- an assembly and a code -/
def AsmRes (w : World) (r : List Pl × Int) (e : Ending) (w' : World) : Prop :=
  ∃ A c, e = .returned (.tuple #[.agg #[.slice A r.1.length c], .int .i64 r.2]) ∧ w'.ownsRow w.heap.size 38 3 (.slice A r.1.length c) r.1.length (plCells r.1) ∧ Below w.heap.size w w'
theorem AsmRes.of {w w' : World} {r : List Pl × Int} {bs : List Pl} {n : Nat} {c : Int} {A : Option Addr} {cap : Nat} (h : (bs, c) = r) (hn : n = bs.length) (hr : w'.ownsRow w.heap.size 38 3 (.slice A n cap) n (plCells bs)) (hb : Below w.heap.size w w') : AsmRes w r (.returned (.tuple #[.agg #[.slice A n cap], .int .i64 c])) w' := by
  subst h hn
  exact ⟨A, cap, rfl, hr, hb⟩
end Go.Proofs.Ytpnahobgmemdjaa
