/- Words for glues, tiles, numbers; slices that a call has made. -/
import Derived.Test.YtpnahobgmemdjaaBase
import Derived.Deep.OwnRows
namespace Go.Proofs.Ytpnahobgmemdjaa
open Go.RowKit
set_option linter.unusedSimpArgs false
set_option linter.unusedVariables false
structure Gl where
  name : ByteArray
  s : Int
structure Ti where
  name : ByteArray
  sides : List Int
def RInt (w : World) (b o : Nat) (x : Int) : Prop := w.cell? ⟨b, o, none⟩ = some (.int .i64 x)
theorem RInt.stable : Stable RInt := fun _ _ _ _ _ h hb hw => (hw.cell (by exact hb)).trans h
def RGl (w : World) (b o : Nat) (e : Gl) : Prop := w.cell? ⟨b, o, none⟩ = some (.string e.name) ∧ w.cell? ⟨b, o + 1, none⟩ = some (.int .i64 e.s)
theorem RGl.stable : Stable RGl := fun _ _ _ _ _ h hb hw => ⟨(hw.cell (by exact hb)).trans h.1, (hw.cell (by exact hb)).trans h.2⟩
def RTi (w : World) (b o : Nat) (e : Ti) : Prop := w.cell? ⟨b, o, none⟩ = some (.string e.name) ∧ ∃ A n c, w.cell? ⟨b, o + 1, none⟩ = some (.slice A n c) ∧ RdSl 1 RInt w A n e.sides
theorem RTi.stable : Stable RTi := fun _ _ _ _ _ ⟨h1, A, n, c, h2, h3⟩ hb hw => ⟨(hw.cell (by exact hb)).trans h1, A, n, c, (hw.cell (by exact hb)).trans h2, h3.below RInt.stable hw⟩

/-- A slice of n elements that the call has made, from block lo on: a row of its own, no cell of it frozen. -/
structure OwSl {α : Type} (T size : Nat) (R : World → Nat → Nat → α → Prop) (w : World) (lo : Nat) (A : Option Addr) (n : Nat) (xs : List α) : Prop where
  len : xs.length = n
  row : ∃ g f, A = some ⟨g, 0, none⟩ ∧ lo ≤ g ∧ w.rowIs g T (n * size) f ∧ ∀ k e, xs[k]? = some e → R w g (k * size) e

theorem OwSl.rd {α : Type} {T size : Nat} {R : World → Nat → Nat → α → Prop} {w : World} {lo : Nat} {A : Option Addr} {n : Nat} {xs : List α} (h : OwSl T size R w lo A n xs) : RdSl size R w A n xs :=
  ⟨h.len, fun _ => by
    obtain ⟨g, f, hA, _, hr, hk⟩ := h.row
    exact ⟨g, 0, hA, hr.lt, fun k hlt => by rw [Nat.zero_add]; exact hk k _ (List.getElem?_eq_getElem hlt)⟩⟩

theorem OwSl.below {α : Type} {T size : Nat} {R : World → Nat → Nat → α → Prop} (hR : Stable R) {w w' : World} {lo : Nat} {A : Option Addr} {n : Nat} {xs : List α} (h : OwSl T size R w lo A n xs) (hb : Below w.heap.size w w') : OwSl T size R w' lo A n xs :=
  ⟨h.len, by
    obtain ⟨g, f, hA, hlo, hr, hk⟩ := h.row
    exact ⟨g, f, hA, hlo, hr.of_block (hb.block g hr.lt), fun k e he => hR _ _ _ _ _ (hk k e he) hr.lt hb⟩⟩

/-- R looks only at the blocks from lo on. -/
def StableAt {α : Type} (lo : Nat) (R : World → Nat → Nat → α → Prop) : Prop :=
  ∀ w w' b o e, R w b o e → lo ≤ b → b < w.heap.size → (∀ k, lo ≤ k → k < w.heap.size → w'.heap[k]? = w.heap[k]?) → R w' b o e
theorem RInt.stableAt (lo : Nat) : StableAt lo RInt := fun w _ b o _ h hlo hb hk => (World.cell?_of_block (w := w) (a := ⟨b, o, none⟩) (hk b hlo hb)).trans h
theorem RGl.stableAt (lo : Nat) : StableAt lo RGl := fun w _ b o _ h hlo hb hk =>
  ⟨(World.cell?_of_block (w := w) (a := ⟨b, o, none⟩) (hk b hlo hb)).trans h.1, (World.cell?_of_block (w := w) (a := ⟨b, o + 1, none⟩) (hk b hlo hb)).trans h.2⟩
theorem RPl.stableAt (lo : Nat) : StableAt lo RPl := fun w _ b o _ h hlo hb hk =>
  ⟨(World.cell?_of_block (w := w) (a := ⟨b, o, none⟩) (hk b hlo hb)).trans h.1, (World.cell?_of_block (w := w) (a := ⟨b, o + 1, none⟩) (hk b hlo hb)).trans h.2.1,
    (World.cell?_of_block (w := w) (a := ⟨b, o + 2, none⟩) (hk b hlo hb)).trans h.2.2⟩
section
variable {α : Type} {T size : Nat} {R : World → Nat → Nat → α → Prop} {w w' : World} {lo : Nat} {A : Option Addr} {n : Nat} {xs : List α}
theorem OwSl.keep (hR : StableAt lo R) (h : OwSl T size R w lo A n xs) (hk : ∀ k, lo ≤ k → k < w.heap.size → w'.heap[k]? = w.heap[k]?) : OwSl T size R w' lo A n xs :=
  ⟨h.len, by
    obtain ⟨g, f, hA, hlo, hr, he⟩ := h.row
    exact ⟨g, f, hA, hlo, hr.of_block (hk g hlo hr.lt), fun k e h' => hR _ _ _ _ _ (he k e h') hlo hr.lt hk⟩⟩
theorem OwSl.set (hR : StableAt lo R) (h : OwSl T size R w lo A n xs) {p : Addr} (hp : p.block < lo) (u : Value) : OwSl T size R (w.setCell p u) lo A n xs :=
  h.keep hR fun k hk _ => Below.heap_setCell w p u k (by omega)
theorem OwSl.weaken (h : OwSl T size R w lo A n xs) {lo' : Nat} (hl : lo' ≤ lo) : OwSl T size R w lo' A n xs :=
  ⟨h.len, by
    obtain ⟨g, f, hA, hlo, hr⟩ := h.row
    exact ⟨g, f, hA, Nat.le_trans hl hlo, hr⟩⟩
end
/-- A tile whose sides lie in memory of the call's own. -/
def ROTi (T lo : Nat) (w : World) (b o : Nat) (e : Ti) : Prop := w.cell? ⟨b, o, none⟩ = some (.string e.name) ∧ ∃ A n, w.cell? ⟨b, o + 1, none⟩ = some (.slice A n n) ∧ OwSl T 1 RInt w lo A n e.sides
theorem ROTi.stable (T lo : Nat) : Stable (ROTi T lo) := fun _ _ _ _ _ ⟨h1, A, n, h2, h3⟩ hb hw => ⟨(hw.cell (by exact hb)).trans h1, A, n, (hw.cell (by exact hb)).trans h2, h3.below RInt.stable hw⟩
theorem ROTi.stableAt (T lo : Nat) : StableAt lo (ROTi T lo) := fun w _ b o _ ⟨h1, A, n, h2, h3⟩ hlo hb hk =>
  ⟨(World.cell?_of_block (w := w) (a := ⟨b, o, none⟩) (hk b hlo hb)).trans h1, A, n, (World.cell?_of_block (w := w) (a := ⟨b, o + 1, none⟩) (hk b hlo hb)).trans h2, h3.keep (RInt.stableAt lo) hk⟩
theorem ROTi.rd {T lo : Nat} {w : World} {b o : Nat} {e : Ti} (h : ROTi T lo w b o e) : RTi w b o e := by
  obtain ⟨h1, A, n, h2, h3⟩ := h
  exact ⟨h1, A, n, n, h2, h3.rd⟩
theorem OwSl.weakenTi {T T' lo lo2 lo' : Nat} {w : World} {A : Option Addr} {n : Nat} {xs : List Ti} (h : OwSl T 2 (ROTi T' lo) w lo2 A n xs) (hl : lo' ≤ lo) (hl2 : lo' ≤ lo2) : OwSl T 2 (ROTi T' lo') w lo' A n xs :=
  ⟨h.len, by
    obtain ⟨g, f, hA, hlo, hr, he⟩ := h.row
    refine ⟨g, f, hA, by omega, hr, fun k e hk => ?_⟩
    obtain ⟨h1, A', n', h2, h3⟩ := he k e hk
    exact ⟨h1, A', n', h2, h3.weaken hl⟩⟩
theorem OwSl.rdTi {T T' lo lo' : Nat} {w : World} {A : Option Addr} {n : Nat} {xs : List Ti} (h : OwSl T 2 (ROTi T' lo) w lo' A n xs) : RdSl 2 RTi w A n xs :=
  ⟨h.len, fun hn => by
    obtain ⟨b, o, hA, hb, hc⟩ := h.rd.cells hn
    exact ⟨b, o, hA, hb, fun k hk => (hc k hk).rd⟩⟩

theorem run_makeN {P : Program} (t e : TypeId) (z : Value) (size bytes : Nat) (ht : P.underlying t = some (.slice e)) (hinfo : (P.info? e).map (fun i => (i.zero, i.size, i.bytes)) = some (some z, size, bytes))
    (n : Nat) (hbytes : bytes * n ≤ 281474976710656) (h63 : n ≤ 9223372036854775807) (w : World) :
    (Instr.makeSlice t (.int .i64 (n : Int)) (.int .i64 (n : Int))).run P w = .ok (.slice (some ⟨w.heap.size, 0, none⟩) n n) (w.alloc (.cells (madeCells z.cells (n * size)) e)) := by
  obtain ⟨i, hi, hz, hs, hb⟩ := info_parts hinfo
  have hb' : (i.bytes : Int) * (n : Int) ≤ 281474976710656 := by
    rw [hb]
    have h : ((bytes * n : Nat) : Int) ≤ 281474976710656 := by omega
    rwa [Int.natCast_mul] at h
  have hr := run_make (P := P) w t e i z ht hi hz .i64 .i64 n n (by omega) (Int.le_refl _) hb' (by omega)
  simp only [Int.toNat_natCast, hs] at hr
  exact hr
theorem rowIs_make (w : World) (z : Array Value) (n : Nat) (t : TypeId) : (w.alloc (.cells (madeCells z n) t)).rowIs w.heap.size t n (fun i => z[i % z.size]!) := by
  have h := World.rowIs_alloc w (madeCells z n) t (fun i => z[i % z.size]!) (fun i hi => by
    rw [size_madeCells] at hi
    simp [madeCells, hi])
  rwa [size_madeCells] at h

/-- The result is such a slice. -/
def ResSl {α : Type} (T size : Nat) (R : World → Nat → Nat → α → Prop) (w : World) (n : Nat) (xs : List α) (e : Ending) (w' : World) : Prop :=
  ∃ A, e = .returned (.slice A n n) ∧ OwSl T size R w' w.heap.size A n xs ∧ Below w.heap.size w w'

def ResTi (T : Nat) (w : World) (s : ByteArray) (n : Nat) (xs : List Int) (e : Ending) (w' : World) : Prop :=
  ∃ A, e = .returned (.agg #[.string s, .slice A n n]) ∧ OwSl T 1 RInt w' w.heap.size A n xs ∧ Below w.heap.size w w'
def ResSet (TG TT TI : Nat) (w : World) (n : Nat) (gs : List Gl) (m : Nat) (ts : List Ti) (e : Ending) (w' : World) : Prop :=
  ∃ A B, e = .returned (.agg #[.slice A n n, .slice B m m]) ∧ OwSl TG 2 RGl w' w.heap.size A n gs ∧ OwSl TT 2 (ROTi TI w.heap.size) w' w.heap.size B m ts ∧ Below w.heap.size w w'
/-- What the counting functions say. -/
def SzRes (w : World) (left : Int) (ok : Prop) (e : Ending) (w' : World) : Prop :=
  ∃ r : Int, e = .returned (.int .i64 r) ∧ (r = -1 ∨ (0 ≤ r ∧ r ≤ left ∧ ok)) ∧ Below w.heap.size w w'
def letterI (c : Int) : Bool := (decide (97 ≤ c) && decide (c ≤ 122)) || (decide (65 ≤ c) && decide (c ≤ 90))
def digitI (c : Int) : Bool := decide (48 ≤ c) && decide (c ≤ 57)
/-- IsName's test of byte j -/
def okCh (s : ByteArray) (j : Nat) : Bool := if h : j < s.size then letterI (s[j].toNat : Int) || (j != 0 && (digitI (s[j].toNat : Int) || (s[j].toNat : Int) == 95)) else true
def isNameB (s : ByteArray) : Bool := allB s.size (okCh s) && decide (1 ≤ s.size) && decide (s.size ≤ 12)
theorem okCh_eq {s : ByteArray} {k : Nat} (h : k < s.size) : okCh s k = (letterI (s[k].toNat : Int) || (k != 0 && (digitI (s[k].toNat : Int) || (s[k].toNat : Int) == 95))) := by
  unfold okCh; rw [dif_pos h]
end Go.Proofs.Ytpnahobgmemdjaa
