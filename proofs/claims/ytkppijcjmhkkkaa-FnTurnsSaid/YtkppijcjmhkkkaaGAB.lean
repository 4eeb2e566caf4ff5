import Derived.Test.YtkppijcjmhkkkaaGAA
import Derived.Deep.OwnRows
set_option linter.unusedSimpArgs false
set_option linter.unusedVariables false
/- Words for glues, tiles, numbers; slices that a call has made. -/


namespace Go.Proofs.Ytkppijcjmhkkkaa
open Go.RowKit
structure Gl where
  name : ByteArray
  s : Int
structure Ti where
  name : ByteArray
  sides : List Int
def RInt (w : World) (b o : Nat) (x : Int) : Prop := w.cell? ⟨b, o, none⟩ = some (.int .i64 x)
theorem RInt.stable : Stable RInt := fun _ _ _ _ _ h hb hw => (hw.cell (by exact hb)).trans h
def RGl (w : World) (b o : Nat) (e : Gl) : Prop := w.cell? ⟨b, o, none⟩ = some (.string e.name) ∧ w.cell? ⟨b, o + 1, none⟩ = some (.int .i64 e.s)
theorem RGl.stable : Stable RGl := fun _ _ _ _ _ h hb hw => ⟨(hw.cell (by exact hb)).trans h.1, (hw.cell (by exact hb)).trans h.2⟩
def RTi (w : World) (b o : Nat) (e : Ti) : Prop := w.cell? ⟨b, o, none⟩ = some (.string e.name) ∧ ∃ A n c, w.cell? ⟨b, o + 1, none⟩ = some (.slice A n c) ∧ RdSl 1 RInt w A n e.sides
theorem RTi.stable : Stable RTi := fun _ _ _ _ _ ⟨h1, A, n, c, h2, h3⟩ hb hw => ⟨(hw.cell (by exact hb)).trans h1, A, n, c, (hw.cell (by exact hb)).trans h2, h3.below RInt.stable hw⟩

/-- A slice of n elements that the call has made, from block lo on: a row of its own, no cell of it frozen. -/
structure OwSl {α : Type} (T size : Nat) (R : World → Nat → Nat → α → Prop) (w : World) (lo : Nat) (A : Option Addr) (n : Nat) (xs : List α) : Prop where
  len : xs.length = n
  row : ∃ g f, A = some ⟨g, 0, none⟩ ∧ lo ≤ g ∧ w.rowIs g T (n * size) f ∧ ∀ k e, xs[k]? = some e → R w g (k * size) e

theorem OwSl.rd {α : Type} {T size : Nat} {R : World → Nat → Nat → α → Prop} {w : World} {lo : Nat} {A : Option Addr} {n : Nat} {xs : List α} (h : OwSl T size R w lo A n xs) : RdSl size R w A n xs :=
  ⟨h.len, fun _ => by
    obtain ⟨g, f, hA, _, hr, hk⟩ := h.row
    exact ⟨g, 0, hA, hr.lt, fun k hlt => by rw [Nat.zero_add]; exact hk k _ (List.getElem?_eq_getElem hlt)⟩⟩

theorem OwSl.below {α : Type} {T size : Nat} {R : World → Nat → Nat → α → Prop} (hR : Stable R) {w w' : World} {lo : Nat} {A : Option Addr} {n : Nat} {xs : List α} (h : OwSl T size R w lo A n xs) (hb : Below w.heap.size w w') : OwSl T size R w' lo A n xs :=
  ⟨h.len, by
    obtain ⟨g, f, hA, hlo, hr, hk⟩ := h.row
    exact ⟨g, f, hA, hlo, hr.of_block (hb.block g hr.lt), fun k e he => hR _ _ _ _ _ (hk k e he) hr.lt hb⟩⟩

/-- R looks only at the blocks from lo on. -/
def StableAt {α : Type} (lo : Nat) (R : World → Nat → Nat → α → Prop) : Prop :=
  ∀ w w' b o e, R w b o e → lo ≤ b → b < w.heap.size → (∀ k, lo ≤ k → k < w.heap.size → w'.heap[k]? = w.heap[k]?) → R w' b o e
theorem RInt.stableAt (lo : Nat) : StableAt lo RInt := fun w _ b o _ h hlo hb hk => (World.cell?_of_block (w := w) (a := ⟨b, o, none⟩) (hk b hlo hb)).trans h
theorem RGl.stableAt (lo : Nat) : StableAt lo RGl := fun w _ b o _ h hlo hb hk =>
  ⟨(World.cell?_of_block (w := w) (a := ⟨b, o, none⟩) (hk b hlo hb)).trans h.1, (World.cell?_of_block (w := w) (a := ⟨b, o + 1, none⟩) (hk b hlo hb)).trans h.2⟩
theorem RPl.stableAt (lo : Nat) : StableAt lo RPl := fun w _ b o _ h hlo hb hk =>
  ⟨(World.cell?_of_block (w := w) (a := ⟨b, o, none⟩) (hk b hlo hb)).trans h.1, (World.cell?_of_block (w := w) (a := ⟨b, o + 1, none⟩) (hk b hlo hb)).trans h.2.1,
    (World.cell?_of_block (w := w) (a := ⟨b, o + 2, none⟩) (hk b hlo hb)).trans h.2.2⟩
section
variable {α : Type} {T size : Nat} {R : World → Nat → Nat → α → Prop} {w w' : World} {lo : Nat} {A : Option Addr} {n : Nat} {xs : List α}
theorem OwSl.keep (hR : StableAt lo R) (h : OwSl T size R w lo A n xs) (hk : ∀ k, lo ≤ k → k < w.heap.size → w'.heap[k]? = w.heap[k]?) : OwSl T size R w' lo A n xs :=
  ⟨h.len, by
    obtain ⟨g, f, hA, hlo, hr, he⟩ := h.row
    exact ⟨g, f, hA, hlo, hr.of_block (hk g hlo hr.lt), fun k e h' => hR _ _ _ _ _ (he k e h') hlo hr.lt hk⟩⟩
theorem OwSl.set (hR : StableAt lo R) (h : OwSl T size R w lo A n xs) {p : Addr} (hp : p.block < lo) (u : Value) : OwSl T size R (w.setCell p u) lo A n xs :=
  h.keep hR fun k hk _ => Below.heap_setCell w p u k (by omega)
theorem OwSl.weaken (h : OwSl T size R w lo A n xs) {lo' : Nat} (hl : lo' ≤ lo) : OwSl T size R w lo' A n xs :=
  ⟨h.len, by
    obtain ⟨g, f, hA, hlo, hr⟩ := h.row
    exact ⟨g, f, hA, Nat.le_trans hl hlo, hr⟩⟩
end
/-- A tile whose sides lie in memory of the call's own. -/
def ROTi (T lo : Nat) (w : World) (b o : Nat) (e : Ti) : Prop := w.cell? ⟨b, o, none⟩ = some (.string e.name) ∧ ∃ A n, w.cell? ⟨b, o + 1, none⟩ = some (.slice A n n) ∧ OwSl T 1 RInt w lo A n e.sides
theorem ROTi.stable (T lo : Nat) : Stable (ROTi T lo) := fun _ _ _ _ _ ⟨h1, A, n, h2, h3⟩ hb hw => ⟨(hw.cell (by exact hb)).trans h1, A, n, (hw.cell (by exact hb)).trans h2, h3.below RInt.stable hw⟩
theorem ROTi.stableAt (T lo : Nat) : StableAt lo (ROTi T lo) := fun w _ b o _ ⟨h1, A, n, h2, h3⟩ hlo hb hk =>
  ⟨(World.cell?_of_block (w := w) (a := ⟨b, o, none⟩) (hk b hlo hb)).trans h1, A, n, (World.cell?_of_block (w := w) (a := ⟨b, o + 1, none⟩) (hk b hlo hb)).trans h2, h3.keep (RInt.stableAt lo) hk⟩
theorem ROTi.rd {T lo : Nat} {w : World} {b o : Nat} {e : Ti} (h : ROTi T lo w b o e) : RTi w b o e := by
  obtain ⟨h1, A, n, h2, h3⟩ := h
  exact ⟨h1, A, n, n, h2, h3.rd⟩
theorem OwSl.weakenTi {T T' lo lo2 lo' : Nat} {w : World} {A : Option Addr} {n : Nat} {xs : List Ti} (h : OwSl T 2 (ROTi T' lo) w lo2 A n xs) (hl : lo' ≤ lo) (hl2 : lo' ≤ lo2) : OwSl T 2 (ROTi T' lo') w lo' A n xs :=
  ⟨h.len, by
    obtain ⟨g, f, hA, hlo, hr, he⟩ := h.row
    refine ⟨g, f, hA, by omega, hr, fun k e hk => ?_⟩
    obtain ⟨h1, A', n', h2, h3⟩ := he k e hk
    exact ⟨h1, A', n', h2, h3.weaken hl⟩⟩
theorem OwSl.rdTi {T T' lo lo' : Nat} {w : World} {A : Option Addr} {n : Nat} {xs : List Ti} (h : OwSl T 2 (ROTi T' lo) w lo' A n xs) : RdSl 2 RTi w A n xs :=
  ⟨h.len, fun hn => by
    obtain ⟨b, o, hA, hb, hc⟩ := h.rd.cells hn
    exact ⟨b, o, hA, hb, fun k hk => (hc k hk).rd⟩⟩

theorem run_makeN {P : Program} (t e : TypeId) (z : Value) (size bytes : Nat) (ht : P.underlying t = some (.slice e)) (hinfo : (P.info? e).map (fun i => (i.zero, i.size, i.bytes)) = some (some z, size, bytes))
    (n : Nat) (hbytes : bytes * n ≤ 281474976710656) (h63 : n ≤ 9223372036854775807) (w : World) :
    (Instr.makeSlice t (.int .i64 (n : Int)) (.int .i64 (n : Int))).run P w = .ok (.slice (some ⟨w.heap.size, 0, none⟩) n n) (w.alloc (.cells (madeCells z.cells (n * size)) e)) := by
  obtain ⟨i, hi, hz, hs, hb⟩ := info_parts hinfo
  have hb' : (i.bytes : Int) * (n : Int) ≤ 281474976710656 := by
    rw [hb]
    have h : ((bytes * n : Nat) : Int) ≤ 281474976710656 := by omega
    rwa [Int.natCast_mul] at h
  have hr := run_make (P := P) w t e i z ht hi hz .i64 .i64 n n (by omega) (Int.le_refl _) hb' (by omega)
  simp only [Int.toNat_natCast, hs] at hr
  exact hr
theorem rowIs_make (w : World) (z : Array Value) (n : Nat) (t : TypeId) : (w.alloc (.cells (madeCells z n) t)).rowIs w.heap.size t n (fun i => z[i % z.size]!) := by
  have h := World.rowIs_alloc w (madeCells z n) t (fun i => z[i % z.size]!) (fun i hi => by
    rw [size_madeCells] at hi
    simp [madeCells, hi])
  rwa [size_madeCells] at h

/-- The result is such a slice. -/
def ResSl {α : Type} (T size : Nat) (R : World → Nat → Nat → α → Prop) (w : World) (n : Nat) (xs : List α) (e : Ending) (w' : World) : Prop :=
  ∃ A, e = .returned (.slice A n n) ∧ OwSl T size R w' w.heap.size A n xs ∧ Below w.heap.size w w'

def ResTi (T : Nat) (w : World) (s : ByteArray) (n : Nat) (xs : List Int) (e : Ending) (w' : World) : Prop :=
  ∃ A, e = .returned (.agg #[.string s, .slice A n n]) ∧ OwSl T 1 RInt w' w.heap.size A n xs ∧ Below w.heap.size w w'
def ResSet (TG TT TI : Nat) (w : World) (n : Nat) (gs : List Gl) (m : Nat) (ts : List Ti) (e : Ending) (w' : World) : Prop :=
  ∃ A B, e = .returned (.agg #[.slice A n n, .slice B m m]) ∧ OwSl TG 2 RGl w' w.heap.size A n gs ∧ OwSl TT 2 (ROTi TI w.heap.size) w' w.heap.size B m ts ∧ Below w.heap.size w w'
/-- What the counting functions say. -/
def SzRes (w : World) (left : Int) (ok : Prop) (e : Ending) (w' : World) : Prop :=
  ∃ r : Int, e = .returned (.int .i64 r) ∧ (r = -1 ∨ (0 ≤ r ∧ r ≤ left ∧ ok)) ∧ Below w.heap.size w w'
def letterI (c : Int) : Bool := (decide (97 ≤ c) && decide (c ≤ 122)) || (decide (65 ≤ c) && decide (c ≤ 90))
def digitI (c : Int) : Bool := decide (48 ≤ c) && decide (c ≤ 57)
/-- IsName's test of byte j -/
def okCh (s : ByteArray) (j : Nat) : Bool := if h : j < s.size then letterI (s[j].toNat : Int) || (j != 0 && (digitI (s[j].toNat : Int) || (s[j].toNat : Int) == 95)) else true
def isNameB (s : ByteArray) : Bool := allB s.size (okCh s) && decide (1 ≤ s.size) && decide (s.size ≤ 12)
theorem okCh_eq {s : ByteArray} {k : Nat} (h : k < s.size) : okCh s k = (letterI (s[k].toNat : Int) || (k != 0 && (digitI (s[k].toNat : Int) || (s[k].toNat : Int) == 95))) := by
  unfold okCh; rw [dif_pos h]
end Go.Proofs.Ytkppijcjmhkkkaa
/- Walks: names. -/


namespace Go.Proofs.Ytkppijcjmhkkkaa
open Go.RowKit
attribute [local go_sem] BelowBy.cell BelowBy.cell_drew stillUpon givesUpon
theorem cls0 (c : Int) : (97 ≤ c ∧ c ≤ 122) ∨ (65 ≤ c ∧ c ≤ 90) ∨ (48 ≤ c ∧ c ≤ 57) ∨ c = 95 ∨ c < 48 ∨ (57 < c ∧ c < 65) ∨ (90 < c ∧ c < 95) ∨ (95 < c ∧ c < 97) ∨ 122 < c := by omega
theorem cls (c : Int) : (97 ≤ c ∧ c ≤ 122 ∧ 65 ≤ c ∧ ¬ c ≤ 90 ∧ 48 ≤ c ∧ ¬ c ≤ 57 ∧ ¬ c < 48 ∧ 57 < c ∧ ¬ c = 95) ∨ (¬ 97 ≤ c ∧ c ≤ 122 ∧ 65 ≤ c ∧ c ≤ 90 ∧ 48 ≤ c ∧ ¬ c ≤ 57 ∧ ¬ c < 48 ∧ 57 < c ∧ ¬ c = 95) ∨ (¬ 97 ≤ c ∧ c ≤ 122 ∧ ¬ 65 ≤ c ∧ c ≤ 90 ∧ 48 ≤ c ∧ c ≤ 57 ∧ ¬ c < 48 ∧ ¬ 57 < c ∧ ¬ c = 95) ∨ (¬ 97 ≤ c ∧ c ≤ 122 ∧ 65 ≤ c ∧ ¬ c ≤ 90 ∧ 48 ≤ c ∧ ¬ c ≤ 57 ∧ ¬ c < 48 ∧ 57 < c ∧ c = 95) ∨ (¬ 97 ≤ c ∧ c ≤ 122 ∧ ¬ 65 ≤ c ∧ c ≤ 90 ∧ ¬ 48 ≤ c ∧ c ≤ 57 ∧ c < 48 ∧ ¬ 57 < c ∧ ¬ c = 95) ∨ (¬ 97 ≤ c ∧ c ≤ 122 ∧ ¬ 65 ≤ c ∧ c ≤ 90 ∧ 48 ≤ c ∧ ¬ c ≤ 57 ∧ ¬ c < 48 ∧ 57 < c ∧ ¬ c = 95) ∨ (¬ 97 ≤ c ∧ c ≤ 122 ∧ 65 ≤ c ∧ ¬ c ≤ 90 ∧ 48 ≤ c ∧ ¬ c ≤ 57 ∧ ¬ c < 48 ∧ 57 < c ∧ ¬ c = 95) ∨ (¬ 97 ≤ c ∧ c ≤ 122 ∧ 65 ≤ c ∧ ¬ c ≤ 90 ∧ 48 ≤ c ∧ ¬ c ≤ 57 ∧ ¬ c < 48 ∧ 57 < c ∧ ¬ c = 95) ∨ (97 ≤ c ∧ ¬ c ≤ 122 ∧ 65 ≤ c ∧ ¬ c ≤ 90 ∧ 48 ≤ c ∧ ¬ c ≤ 57 ∧ ¬ c < 48 ∧ 57 < c ∧ ¬ c = 95) := by 
  rcases cls0 c with h | h | h | h | h | h | h | h | h
  · exact Or.inl ⟨by omega, by omega, by omega, by omega, by omega, by omega, by omega, by omega, by omega⟩
  · exact Or.inr (Or.inl ⟨by omega, by omega, by omega, by omega, by omega, by omega, by omega, by omega, by omega⟩)
  · exact Or.inr (Or.inr (Or.inl ⟨by omega, by omega, by omega, by omega, by omega, by omega, by omega, by omega, by omega⟩))
  · exact Or.inr (Or.inr (Or.inr (Or.inl ⟨by omega, by omega, by omega, by omega, by omega, by omega, by omega, by omega, by omega⟩)))
  · exact Or.inr (Or.inr (Or.inr (Or.inr (Or.inl ⟨by omega, by omega, by omega, by omega, by omega, by omega, by omega, by omega, by omega⟩))))
  · exact Or.inr (Or.inr (Or.inr (Or.inr (Or.inr (Or.inl ⟨by omega, by omega, by omega, by omega, by omega, by omega, by omega, by omega, by omega⟩)))))
  · exact Or.inr (Or.inr (Or.inr (Or.inr (Or.inr (Or.inr (Or.inl ⟨by omega, by omega, by omega, by omega, by omega, by omega, by omega, by omega, by omega⟩))))))
  · exact Or.inr (Or.inr (Or.inr (Or.inr (Or.inr (Or.inr (Or.inr (Or.inl ⟨by omega, by omega, by omega, by omega, by omega, by omega, by omega, by omega, by omega⟩)))))))
  · exact Or.inr (Or.inr (Or.inr (Or.inr (Or.inr (Or.inr (Or.inr (Or.inr (⟨by omega, by omega, by omega, by omega, by omega, by omega, by omega, by omega, by omega⟩))))))))
theorem letterI_iff (c : Int) : letterI c = true ↔ (97 ≤ c ∧ c ≤ 122) ∨ (65 ≤ c ∧ c ≤ 90) := by simp [letterI]
theorem digitI_iff (c : Int) : digitI c = true ↔ 48 ≤ c ∧ c ≤ 57 := by simp [digitI]
theorem bool_of {b c : Bool} {p : Prop} (hb : b = true ↔ p) (hc : c = true ↔ p) : b = c := by rw [Bool.eq_iff_iff, hb, hc]
/-- what a byte is good for -/
theorem okCh_iff {s : ByteArray} {k : Nat} {c : Int} (h : okCh s k = (letterI c || (k != 0 && (digitI c || c == 95)))) : okCh s k = true ↔ ((97 ≤ c ∧ c ≤ 122) ∨ (65 ≤ c ∧ c ≤ 90)) ∨ (k ≠ 0 ∧ ((48 ≤ c ∧ c ≤ 57) ∨ c = 95)) := by
  rw [h, Bool.or_eq_true, letterI_iff, Bool.and_eq_true, Bool.or_eq_true, digitI_iff]; simp
theorem isNameB_bad {s : ByteArray} {k : Nat} (h : k < s.size) (hk : ¬ okCh s k = true) : isNameB s = false := by
  have : allB s.size (okCh s) = false := allB_false h (by simpa using hk)
  simp [isNameB, this]
theorem isNameB_good {s : ByteArray} (h : ∀ j, j < s.size → okCh s j = true) : isNameB s = (decide (1 ≤ s.size) && decide (s.size ≤ 12)) := by
  simp [isNameB, allB_true h]
theorem isNameB_ok {s : ByteArray} (h : ∀ j, j < s.size → okCh s j = true) (h1 : 1 ≤ s.size) (h2 : s.size ≤ 12) : isNameB s = true := by
  rw [isNameB_good h, decide_eq_true h1, decide_eq_true h2]; rfl
theorem isNameB_size {s : ByteArray} (h : s.size < 1 ∨ 12 < s.size) : isNameB s = false := by
  unfold isNameB
  rcases h with h | h
  · rw [decide_eq_false (by omega : ¬ 1 ≤ s.size)]; simp
  · rw [decide_eq_false (by omega : ¬ s.size ≤ 12)]; simp
theorem bool_neg {b : Bool} (h : ¬ b = true) : b = false := by simpa using h
end Go.Proofs.Ytkppijcjmhkkkaa
/- Walks: the reference's small functions on numbers and points. -/

namespace Go.Proofs.Ytkppijcjmhkkkaa
open Go.RowKit
attribute [local go_sem] BelowBy.cell BelowBy.cell_drew stillUpon givesUpon
theorem l00In_any (n lo hi : Int) (w : World) :
    Calls Try.prog 27 #[.int .i64 n, .int .i64 lo, .int .i64 hi] w fun e w' => e = .returned (.bool (inB n lo hi)) ∧ w = w' := by
  cases h : decide (lo ≤ n)
  all_goals
    go_enter Try.func27, Try.ntmps27
    go_wp2
    go_ret
    exact ⟨ret_bool (by simp [inB, h]), rfl⟩
def oppI (d : Int) : Int := if d < 2 then d + 2 else d - 2
theorem l01Point_any (x y : Int) (w : World) :
    Calls Try.prog 45 #[.agg #[.int .i64 x, .int .i64 y]] w fun e w' => e = .returned (.bool (validPt x y)) ∧ Below w.heap.size w w' := by
  cases h : inB x (-60) 60
  all_goals
    go_enter Try.func45, Try.ntmps45
    go_wp2_with (go_at_call 27; refine (l00In_any _ _ _ _).mono ?_; rintro e _ ⟨rfl, rfl⟩)
    go_ret
    refine ⟨ret_bool (by simp [validPt, h]), ?_⟩
    exact bel_
theorem lessPt_eq (ax ay bx b_y : Int) : lessPt ax ay bx b_y = (decide (ay < b_y) || (ay == b_y && decide (ax < bx))) := by
  unfold lessPt cmpPt orI cmpI
  rw [Bool.eq_iff_iff]
  simp only [decide_eq_true_eq, Bool.or_eq_true, Bool.and_eq_true, beq_iff_eq]
  by_cases h1 : ay < b_y
  · rw [if_pos h1, if_pos (by decide)]; omega
  · rw [if_neg h1]
    by_cases h2 : b_y < ay
    · rw [if_pos h2, if_pos (by decide)]; omega
    · rw [if_neg h2, if_neg (by decide)]
      by_cases h3 : ax < bx
      · rw [if_pos h3]; omega
      · rw [if_neg h3]
        by_cases h4 : bx < ax
        · rw [if_pos h4]; omega
        · rw [if_neg h4]; omega
theorem sLessPoint_any (ax ay bx b_y : Int) (w : World) :
    Calls Try.prog 46 #[.agg #[.int .i64 ax, .int .i64 ay], .agg #[.int .i64 bx, .int .i64 b_y]] w fun e w' => e = .returned (.bool (lessPt ax ay bx b_y)) ∧ Below w.heap.size w w' := by
  cases h : decide (ay < b_y)
  · cases h2 : (ay == b_y)
    all_goals
      go_enter Try.func46, Try.ntmps46
      go_wp2
      go_ret
      refine ⟨ret_bool (by rw [lessPt_eq]; simp [h, h2]), ?_⟩
      exact bel_
  · go_enter Try.func46, Try.ntmps46
    go_wp2
    go_ret
    refine ⟨ret_bool (by rw [lessPt_eq]; simp [h]), ?_⟩
    exact bel_
/-- the next point -/
def stepX (x d : Int) : Int := if d = 1 then x + 1 else if d = 3 then x - 1 else x
def stepY (y d : Int) : Int := if d = 0 then y + 1 else if d = 2 then y - 1 else y
theorem l01Step_any (x y d : Int) (w : World) (hd : 0 ≤ d ∧ d ≤ 3) (hx : -1000 ≤ x ∧ x ≤ 1000) (hy : -1000 ≤ y ∧ y ≤ 1000) :
    Calls Try.prog 43 #[.agg #[.int .i64 x, .int .i64 y], .int .i64 d] w fun e w' => e = .returned (.agg #[.int .i64 (stepX x d), .int .i64 (stepY y d)]) ∧ Below w.heap.size w w' := by
  obtain ⟨h0, h1⟩ := hd
  obtain ⟨x0, x1⟩ := hx
  obtain ⟨y0, y1⟩ := hy
  have : d = 0 ∨ d = 1 ∨ d = 2 ∨ d = 3 := by omega
  rcases this with rfl | rfl | rfl | rfl
  · go_enter Try.func43, Try.ntmps43
    go_wp2
    refine bodyPost_ret (v := .agg #[.int .i64 (x), .int .i64 (y + 1)]) (by simp only [results, Try.results43]; go_simp) rfl ?_
    refine ⟨rfl, ?_⟩
    exact bel_
  · go_enter Try.func43, Try.ntmps43
    go_wp2
    refine bodyPost_ret (v := .agg #[.int .i64 (x + 1), .int .i64 (y)]) (by simp only [results, Try.results43]; go_simp) rfl ?_
    refine ⟨rfl, ?_⟩
    exact bel_
  · go_enter Try.func43, Try.ntmps43
    go_wp2
    refine bodyPost_ret (v := .agg #[.int .i64 (x), .int .i64 (y - 1)]) (by simp only [results, Try.results43]; go_simp) rfl ?_
    refine ⟨rfl, ?_⟩
    exact bel_
  · go_enter Try.func43, Try.ntmps43
    go_wp2
    refine bodyPost_ret (v := .agg #[.int .i64 (x - 1), .int .i64 (y)]) (by simp only [results, Try.results43]; go_simp) rfl ?_
    refine ⟨rfl, ?_⟩
    exact bel_
end Go.Proofs.Ytkppijcjmhkkkaa
