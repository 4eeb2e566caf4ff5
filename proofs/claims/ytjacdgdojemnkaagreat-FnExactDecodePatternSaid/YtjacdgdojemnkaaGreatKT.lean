import Derived.Test.YtjacdgdojemnkaaGreatW20a
import Derived.Test.YtjacdgdojemnkaaGreatOrdApp
import Derived.Test.YtjacdgdojemnkaaGreatKS
import Derived.Test.YtjacdgdojemnkaaGreatKH
/- Walks: the tile at a point; with what strength a tile binds at a point. -/

namespace Go.Proofs.YtjacdgdojemnkaaGreat
open Go.RowKit Go.Shelf
set_option linter.unusedSimpArgs false
set_option linter.unusedVariables false
attribute [local go_sem] BelowBy.cell BelowBy.cell_drew stillUpon givesUpon BelowBy.cell_drew2 BelowBy.cell_drew3

/-- the tile at a point, or -1 -/
noncomputable def atI (xs : List Pl) (x y : Int) : Int := if placeI xs x y < 0 then -1 else match xs[(placeI xs x y).toNat]? with
  | some e => e.t
  | none => -1
theorem atI_none {xs : List Pl} {x y : Int} (h : placeI xs x y = -1) : atI xs x y = -1 := by unfold atI; rw [h, if_pos (by decide)]
theorem atI_some {xs : List Pl} {x y : Int} {k : Nat} {e : Pl} (h : placeI xs x y = k) (he : xs[k]? = some e) : atI xs x y = e.t := by
  unfold atI; rw [h, if_neg (by omega)]
  have : ((k : Nat) : Int).toNat = k := by omega
  simp only [this, he]
theorem atI_cases {gs : List Gl} {ts : List Ti} {xs : List Pl} (hV : Valid gs ts xs) (x y : Int) : (placeI xs x y = -1 ∧ atI xs x y = -1) ∨ ∃ (k t : Nat) (e : Pl), placeI xs x y = k ∧ xs[k]? = some e ∧ e.t = t ∧ t < ts.length ∧ atI xs x y = t := by
  rcases placeI_cases xs x y with h | ⟨k, h, hk⟩
  · exact Or.inl ⟨h, atI_none h⟩
  · have he := List.getElem?_eq_getElem hk
    obtain ⟨t, ht, htl⟩ := hV.ti k _ he
    exact Or.inr ⟨k, t, _, h, he, ht, htl, by rw [atI_some h he, ht]⟩
noncomputable def bindN (gs : List Gl) (ts : List Ti) (xs : List Pl) (x y : Int) (t : Nat) : Nat → Int
  | 0 => 0
  | k + 1 => bindN gs ts xs x y t k + (if 0 ≤ atI xs (stepX x k) (stepY y k) then bondI gs ts t k (atI xs (stepX x k) (stepY y k)).toNat else 0)
theorem strI_nonneg {gs : List Gl} {ts : List Ti} {xs : List Pl} (hV : Valid gs ts xs) (v : Int) : 0 ≤ strI gs v := by
  unfold strI
  split
  · decide
  · split
    · decide
    · rename_i g hg
      have := (hV.str _ _ hg).1
      omega
theorem bondI_nonneg {gs : List Gl} {ts : List Ti} {xs : List Pl} (hV : Valid gs ts xs) (a d b : Nat) : 0 ≤ bondI gs ts a d b := by
  unfold bondI
  split
  · exact strI_nonneg hV _
  · decide
theorem bindN_bound {gs : List Gl} {ts : List Ti} {xs : List Pl} (hV : Valid gs ts xs) (x y : Int) (t k : Nat) : 0 ≤ bindN gs ts xs x y t k ∧ bindN gs ts xs x y t k ≤ 4 * (k : Int) := by
  induction k with
  | zero => simp [bindN]
  | succ k ih =>
    simp only [bindN]
    have h1 := bondI_nonneg hV t k (atI xs (stepX x k) (stepY y k)).toNat
    have h2 := bondI_le hV t k (atI xs (stepX x k) (stepY y k)).toNat
    split <;> omega
set_option maxHeartbeats 1000000 in
theorem at_any (A : Option Addr) (n c : Nat) (gs : List Gl) (ts : List Ti) (xs : List Pl) (x y : Int) (w : World) (h2 : RdSl 3 RPl w A n xs) (hV : Valid gs ts xs) :
    Calls Tryz.prog 70 #[.agg #[.slice A n c], .agg #[.int .i64 x, .int .i64 y]] w fun e w' => e = .returned (.int .i64 (atI xs x y)) ∧ Below w.heap.size w w' := by
  have hl := h2.len
  have h2H := Lib.hid h2
  clear h2
  go_enter Tryz.func70, Tryz.ntmps70
  go_wp2_with fail
  refine (BinarySearch_any _ _ _ gs ts xs _ _ _ (h2H.out.below RPl.stable (by repeat (first | with_reducible exact bl_refl _ | with_reducible assumption | with_reducible refine bl_al ?_ _ | with_reducible refine bl_dr ?_ | with_reducible refine bl_tr ?_ (by assumption) | with_reducible refine bl_set ?_ ?_ _ | with_reducible exact Nat.le_refl _ | omega | (simp only [World.size_alloc, World.size_setCell, World.size_drew] at *; omega) | (dsimp only; omega) | (simp; done) | (simp; omega)))) hV).mono ?_
  rintro e w1 ⟨r, b, rfl, ⟨hp, hr0⟩, hb1⟩
  cases b
  · have hpH := Lib.hid (atI_none hp.symm)
    clear hp
    go_wp2
    go_ret
    exact ⟨ret_int hpH.out.symm, by repeat (first | with_reducible exact bl_refl _ | with_reducible assumption | with_reducible refine bl_al ?_ _ | with_reducible refine bl_dr ?_ | with_reducible refine bl_tr ?_ (by assumption) | with_reducible refine bl_set ?_ ?_ _ | with_reducible exact Nat.le_refl _ | omega | (simp only [World.size_alloc, World.size_setCell, World.size_drew] at *; omega) | (dsimp only; omega) | (simp; done) | (simp; omega))⟩
  · simp only [if_true] at hp
    rcases atI_cases hV x y with ⟨h1, _⟩ | ⟨k, t, e, h1, he, ht, htl, hat⟩
    · rw [h1] at hp
      omega
    · obtain rfl : r = (k : Int) := by rw [hp, h1]
      have hk : k < n := by rw [← hl]; exact lt_of_get he
      have hA1 := h2H.out.below RPl.stable (show Below w.heap.size w w1 by repeat (first | with_reducible exact bl_refl _ | with_reducible assumption | with_reducible refine bl_al ?_ _ | with_reducible refine bl_dr ?_ | with_reducible refine bl_tr ?_ (by assumption) | with_reducible refine bl_set ?_ ?_ _ | with_reducible exact Nat.le_refl _ | omega | (simp only [World.size_alloc, World.size_setCell, World.size_drew] at *; omega) | (dsimp only; omega) | (simp; done) | (simp; omega)))
      obtain ⟨bb, o, rfl, hb, hc⟩ := hA1.ptr (by omega)
      obtain ⟨c0, c1, c2⟩ := hc k e he
      obtain ⟨chb1, fhb1, shb1, thb1⟩ := bcell hb1
      have hatH := Lib.hid hat
      rw [ht] at c2
      have hk0 : (0 : Int) ≤ (k : Int) := by omega
      clear hp h1 he hat hc ht hA1 hl
      go_wp2
      go_ret
      exact ⟨ret_int hatH.out.symm, by repeat (first | with_reducible exact bl_refl _ | with_reducible assumption | with_reducible refine bl_al ?_ _ | with_reducible refine bl_dr ?_ | with_reducible refine bl_tr ?_ (by assumption) | with_reducible refine bl_set ?_ ?_ _ | with_reducible exact Nat.le_refl _ | omega | (simp only [World.size_alloc, World.size_setCell, World.size_drew] at *; omega) | (dsimp only; omega) | (simp; done) | (simp; omega))⟩
theorem l03Index_at {op p : Nat} {gs : List Gl} {ts : List Ti} {xs : List Pl} {x y r : Int} {w : World} (ha : AsmAt w p op xs) (hV : Valid gs ts xs) (h : placeI xs x y = r) :
    Calls Tryz.prog 65 #[.pointer (some ⟨p, op, none⟩), .agg #[.int .i64 x, .int .i64 y]] w fun e w' => e = .returned (.int .i64 r) ∧ Below w.heap.size w w' := by
  rw [← h]; exact l03Index_any p gs ts xs x y w ha hV
theorem at_at {A : Option Addr} {n c : Nat} {gs : List Gl} {ts : List Ti} {xs : List Pl} {x y r : Int} {w : World} (h2 : RdSl 3 RPl w A n xs) (hV : Valid gs ts xs) (h : atI xs x y = r) :
    Calls Tryz.prog 70 #[.agg #[.slice A n c], .agg #[.int .i64 x, .int .i64 y]] w fun e w' => e = .returned (.int .i64 r) ∧ Below w.heap.size w w' := by
  rw [← h]; exact at_any A n c gs ts xs x y w h2 hV
set_option maxHeartbeats 1000000 in
theorem l03At_any {op : Nat} (p : Nat) (gs : List Gl) (ts : List Ti) (xs : List Pl) (x y r : Int) (w : World) (ha : AsmAt w p op xs) (hV : Valid gs ts xs) (hr : atI xs x y = r) :
    Calls Tryz.prog 76 #[.pointer (some ⟨p, op, none⟩), .agg #[.int .i64 x, .int .i64 y]] w fun e w' => e = .returned (.int .i64 r) ∧ Below w.heap.size w w' := by
  
  obtain ⟨hlt, ⟨A, n, c, h1, h2⟩⟩ := id ha
  have hl := h2.len
  subst hr
  rcases atI_cases hV x y with ⟨h0, hat⟩ | ⟨k, t, e, h0, he, ht, htl, hat⟩
  · have hatH := Lib.hid hat
    have h0H := Lib.hid h0
    clear hat h0 h2
    go_enter Tryz.func76, Tryz.ntmps76
    go_wp2_with fail
    refine (l03Index_at (ha.below (by repeat (first | with_reducible exact bl_refl _ | with_reducible assumption | with_reducible refine bl_al ?_ _ | with_reducible refine bl_dr ?_ | with_reducible refine bl_tr ?_ (by assumption) | with_reducible refine bl_set ?_ ?_ _ | with_reducible exact Nat.le_refl _ | omega | (simp only [World.size_alloc, World.size_setCell, World.size_drew] at *; omega) | (dsimp only; omega) | (simp; done) | (simp; omega)))) hV h0H.out).mono ?_
    rintro e w1 ⟨rfl, hb1⟩
    go_wp2
    go_ret
    exact ⟨ret_int hatH.out.symm, by repeat (first | with_reducible exact bl_refl _ | with_reducible assumption | with_reducible refine bl_al ?_ _ | with_reducible refine bl_dr ?_ | with_reducible refine bl_tr ?_ (by assumption) | with_reducible refine bl_set ?_ ?_ _ | with_reducible exact Nat.le_refl _ | omega | (simp only [World.size_alloc, World.size_setCell, World.size_drew] at *; omega) | (dsimp only; omega) | (simp; done) | (simp; omega))⟩
  · have hatH := Lib.hid hat
    have h0H := Lib.hid h0
    have hkn : k < n := by rw [← hl]; exact lt_of_get he
    obtain ⟨b, o, rfl, hb, hc⟩ := h2.ptr (by omega)
    obtain ⟨c0, c1, c2⟩ := hc k e he
    rw [ht] at c2
    have hk0 : (0 : Int) ≤ (k : Int) := by omega
    clear hat h0 h2 hc he ht hl
    go_enter Tryz.func76, Tryz.ntmps76
    go_wp2_with fail
    refine (l03Index_at (ha.below (by repeat (first | with_reducible exact bl_refl _ | with_reducible assumption | with_reducible refine bl_al ?_ _ | with_reducible refine bl_dr ?_ | with_reducible refine bl_tr ?_ (by assumption) | with_reducible refine bl_set ?_ ?_ _ | with_reducible exact Nat.le_refl _ | omega | (simp only [World.size_alloc, World.size_setCell, World.size_drew] at *; omega) | (dsimp only; omega) | (simp; done) | (simp; omega)))) hV h0H.out).mono ?_
    rintro e w1 ⟨rfl, hb1⟩
    obtain ⟨chb1, fhb1, shb1, thb1⟩ := bcell hb1
    have k1 := shb1 p (by go_simp)
    have k2 := shb1 b (by go_simp)
    go_wp2
    go_ret
    exact ⟨ret_int hatH.out.symm, by repeat (first | with_reducible exact bl_refl _ | with_reducible assumption | with_reducible refine bl_al ?_ _ | with_reducible refine bl_dr ?_ | with_reducible refine bl_tr ?_ (by assumption) | with_reducible refine bl_set ?_ ?_ _ | with_reducible exact Nat.le_refl _ | omega | (simp only [World.size_alloc, World.size_setCell, World.size_drew] at *; omega) | (dsimp only; omega) | (simp; done) | (simp; omega))⟩
end Go.Proofs.YtjacdgdojemnkaaGreat
/- Walk: a digit's value; a tile's name. -/

namespace Go.Proofs.YtjacdgdojemnkaaGreat
open Go.RowKit Go.Shelf
set_option linter.unusedSimpArgs false
set_option linter.unusedVariables false
attribute [local go_sem] BelowBy.cell BelowBy.cell_drew stillUpon givesUpon BelowBy.cell_drew2 BelowBy.cell_drew3

def digitV (c : Int) : Int := if digitI c = true then c - 48 else -1
theorem digitV_yes {c : Int} (h : digitI c = true) : digitV c = c - 48 ∧ 0 ≤ digitV c := by
  have h2 := (digitI_iff c).1 h
  unfold digitV
  rw [if_pos h]
  exact ⟨rfl, by omega⟩
theorem digitV_no {c : Int} (h : digitI c = false) : digitV c = -1 ∧ ¬ 0 ≤ digitV c := by
  unfold digitV
  rw [if_neg (by rw [h]; decide)]
  exact ⟨rfl, by omega⟩
theorem ba1_0 (b : UInt8) (h : 0 < ({ data := #[b] } : ByteArray).size) : ({ data := #[b] } : ByteArray)[0]'h = b := rfl
attribute [local go_sem] ba1_0
set_option maxHeartbeats 1000000 in
theorem digit_any (b : UInt8) (w : World) :
    Calls Tryz.prog 145 #[.string { data := #[b] }] w fun e w' => e = .returned (.int .i64 (digitV (b.toNat : Int))) ∧ w = w' := by
  have hsz : ({ data := #[b] } : ByteArray).size = 1 := rfl
  have hb : b.toNat < 256 := b.toNat_lt
  cases hd : digitI (b.toNat : Int)
  · have hv := Lib.hid (digitV_no hd).1
    have hr : ¬ (48 ≤ (b.toNat : Int) ∧ (b.toNat : Int) ≤ 57) := fun h => by rw [(digitI_iff _).2 h] at hd; cases hd
    by_cases h1 : (b.toNat : Int) < 48
    · go_enter Tryz.func145, Tryz.ntmps145
      go_wp2
      go_ret
      exact ⟨ret_int hv.out.symm, rfl⟩
    · have h2 : (57 : Int) < (b.toNat : Int) := by omega
      go_enter Tryz.func145, Tryz.ntmps145
      go_wp2
      go_ret
      exact ⟨ret_int hv.out.symm, rfl⟩
  · have hv := Lib.hid (digitV_yes hd).1
    have hr := (digitI_iff _).1 hd
    have h1 : ¬ (b.toNat : Int) < 48 := by omega
    have h2 : ¬ (57 : Int) < (b.toNat : Int) := by omega
    have h3 : IntKind.u8.wrap ((b.toNat : Int) - 48) = (b.toNat : Int) - 48 := by
      simp [IntKind.wrap, IntKind.bits, IntKind.signed]; omega
    have h4 : IntKind.i64.wrap ((b.toNat : Int) - 48) = (b.toNat : Int) - 48 := wrap_in (by omega) (by omega)
    go_enter Tryz.func145, Tryz.ntmps145
    go_wp2
    go_ret
    exact ⟨ret_int (by rw [hv.out]), rfl⟩
def nameT_ (ts : List Ti) (t : Nat) : ByteArray := match ts[t]? with
  | some e => e.name
  | none => ByteArray.empty
end Go.Proofs.YtjacdgdojemnkaaGreat
/- Walks: the colour that a tile's name tells. -/


namespace Go.Proofs.YtjacdgdojemnkaaGreat
open Go.RowKit Go.Shelf
set_option linter.unusedSimpArgs false
set_option linter.unusedVariables false
attribute [local go_sem] BelowBy.cell BelowBy.cell_drew stillUpon givesUpon BelowBy.cell_drew2 BelowBy.cell_drew3

def colL (a b c : UInt8) : Int := if ((a.toNat : Int) == 99) && (((c.toNat : Int) == 95) && inB (b.toNat : Int) 48 53) then (b.toNat : Int) - 48 else -1
def colI (s : ByteArray) : Int := match s.data.toList with
  | a :: b :: c :: _ :: _ => colL a b c
  | _ => -1
theorem bytesL {s : ByteArray} (h : ¬ s.size < 4) : ∃ (a b c d : UInt8) (l : List UInt8), s = { data := ⟨a :: b :: c :: d :: l⟩ } := by
  obtain ⟨⟨l⟩⟩ := s
  have h : ¬ l.length < 4 := h
  match l, h with
  | [], h => exact (h (by decide)).elim
  | [_], h => exact (h (by simp)).elim
  | [_, _], h => exact (h (by simp)).elim
  | [_, _, _], h => exact (h (by simp)).elim
  | a :: b :: c :: d :: l, _ => exact ⟨a, b, c, d, l, rfl⟩
theorem colI_lt {s : ByteArray} (h : s.size < 4) : colI s = -1 := by
  obtain ⟨⟨l⟩⟩ := s
  have h : l.length < 4 := h
  unfold colI
  match l, h with
  | [], _ => rfl
  | [_], _ => rfl
  | [_, _], _ => rfl
  | [_, _, _], _ => rfl
  | _ :: _ :: _ :: _ :: _, h => simp at h; omega
theorem colI_eq (a b c d : UInt8) (l : List UInt8) : colI { data := ⟨a :: b :: c :: d :: l⟩ } = colL a b c := rfl
theorem baL_0 (a b c d : UInt8) (l : List UInt8) (h : 0 < ({ data := ⟨a :: b :: c :: d :: l⟩ } : ByteArray).size) : ({ data := ⟨a :: b :: c :: d :: l⟩ } : ByteArray)[0]'h = a := rfl
theorem baL_1 (a b c d : UInt8) (l : List UInt8) (h : 1 < ({ data := ⟨a :: b :: c :: d :: l⟩ } : ByteArray).size) : ({ data := ⟨a :: b :: c :: d :: l⟩ } : ByteArray)[1]'h = b := rfl
theorem baL_2 (a b c d : UInt8) (l : List UInt8) (h : 2 < ({ data := ⟨a :: b :: c :: d :: l⟩ } : ByteArray).size) : ({ data := ⟨a :: b :: c :: d :: l⟩ } : ByteArray)[2]'h = c := rfl
theorem baL_x (a b c d : UInt8) (l : List UInt8) : ({ data := ⟨a :: b :: c :: d :: l⟩ } : ByteArray).extract 1 2 = { data := #[b] } := by
  apply ByteArray.ext
  simp [ByteArray.data_extract]
attribute [local go_sem] ba1_0 baL_0 baL_1 baL_2 baL_x
theorem colL_a {a b c : UInt8} (h : ((a.toNat : Int) == 99) = false) : colL a b c = -1 := by unfold colL; rw [h]; rfl
theorem colL_c {a b c : UInt8} (h : ((a.toNat : Int) == 99) = true) (h2 : ((c.toNat : Int) == 95) = false) : colL a b c = -1 := by unfold colL; rw [h, h2]; rfl
theorem colL_b {a b c : UInt8} (h : ((a.toNat : Int) == 99) = true) (h2 : ((c.toNat : Int) == 95) = true) (h3 : inB (b.toNat : Int) 48 53 = false) : colL a b c = -1 := by unfold colL; rw [h, h2, h3]; rfl
theorem colL_y {a b c : UInt8} (h : ((a.toNat : Int) == 99) = true) (h2 : ((c.toNat : Int) == 95) = true) (h3 : inB (b.toNat : Int) 48 53 = true) : colL a b c = (b.toNat : Int) - 48 := by unfold colL; rw [h, h2, h3]; rfl
set_option maxRecDepth 100000 in
set_option maxHeartbeats 2000000 in
theorem colorOf_any (s : ByteArray) (w : World) (hs : s.size ≤ 9223372036854775807) {v : Int} (hv : colI s = v) :
    Calls Tryz.prog 79 #[.string s] w fun e w' => e = .returned (.int .i64 v) ∧ Below w.heap.size w w' := by
  by_cases h4 : s.size < 4
  · have h4d : ((s.size : Int) < 4) := by omega
    have hr := Lib.hid ((colI_lt h4).symm.trans hv)
    go_enter Tryz.func79, Tryz.ntmps79
    go_wp2
    go_ret
    exact ⟨ret_int hr.out, by repeat (first | with_reducible exact bl_refl _ | with_reducible assumption | with_reducible refine bl_al ?_ _ | with_reducible refine bl_dr ?_ | with_reducible refine bl_tr ?_ (by assumption) | with_reducible refine bl_set ?_ ?_ _ | with_reducible exact Nat.le_refl _ | omega | (simp only [World.size_alloc, World.size_setCell, World.size_drew] at *; omega) | (dsimp only; omega) | (simp; done) | (simp; omega))⟩
  · obtain ⟨a, b, c, d, l, rfl⟩ := bytesL h4
    rw [colI_eq] at hv
    obtain ⟨n, hn⟩ : ∃ n, ({ data := ⟨a :: b :: c :: d :: l⟩ } : ByteArray).size = n := ⟨_, rfl⟩
    have hn4 : ¬ n < 4 := by omega
    have hn4d : ¬ (n : Int) < 4 := by omega
    rw [hn] at hs
    clear h4
    cases ha : ((a.toNat : Int) == 99)
    · have ha2 : ¬ (a.toNat : Int) = 99 := by simpa using ha
      have hr := Lib.hid ((colL_a ha).symm.trans hv)
      go_enter Tryz.func79, Tryz.ntmps79
      go_wp2
      go_ret
      exact ⟨ret_int hr.out, by repeat (first | with_reducible exact bl_refl _ | with_reducible assumption | with_reducible refine bl_al ?_ _ | with_reducible refine bl_dr ?_ | with_reducible refine bl_tr ?_ (by assumption) | with_reducible refine bl_set ?_ ?_ _ | with_reducible exact Nat.le_refl _ | omega | (simp only [World.size_alloc, World.size_setCell, World.size_drew] at *; omega) | (dsimp only; omega) | (simp; done) | (simp; omega))⟩
    · have ha2 : (a.toNat : Int) = 99 := by simpa using ha
      cases hc : ((c.toNat : Int) == 95)
      · have hc2 : ¬ (c.toNat : Int) = 95 := by simpa using hc
        have hr := Lib.hid ((colL_c ha hc).symm.trans hv)
        go_enter Tryz.func79, Tryz.ntmps79
        go_wp2
        go_ret
        exact ⟨ret_int hr.out, by repeat (first | with_reducible exact bl_refl _ | with_reducible assumption | with_reducible refine bl_al ?_ _ | with_reducible refine bl_dr ?_ | with_reducible refine bl_tr ?_ (by assumption) | with_reducible refine bl_set ?_ ?_ _ | with_reducible exact Nat.le_refl _ | omega | (simp only [World.size_alloc, World.size_setCell, World.size_drew] at *; omega) | (dsimp only; omega) | (simp; done) | (simp; omega))⟩
      · have hc2 : (c.toNat : Int) = 95 := by simpa using hc
        have hb : b.toNat < 256 := b.toNat_lt
        cases hd : inB (b.toNat : Int) 48 53
        · have hr := Lib.hid ((colL_b ha hc hd).symm.trans hv)
          cases hdg : digitI (b.toNat : Int)
          · have hdv := Lib.hid (digitV_no hdg).1
            go_enter Tryz.func79, Tryz.ntmps79
            go_wp2_with (go_at_call 145; refine (digit_any _ _).mono ?_; rw [hdv.out]; rintro e _ ⟨rfl, rfl⟩)
            go_ret
            exact ⟨ret_int hr.out, by repeat (first | with_reducible exact bl_refl _ | with_reducible assumption | with_reducible refine bl_al ?_ _ | with_reducible refine bl_dr ?_ | with_reducible refine bl_tr ?_ (by assumption) | with_reducible refine bl_set ?_ ?_ _ | with_reducible exact Nat.le_refl _ | omega | (simp only [World.size_alloc, World.size_setCell, World.size_drew] at *; omega) | (dsimp only; omega) | (simp; done) | (simp; omega))⟩
          · have hdv := Lib.hid (digitV_yes hdg).1
            have hg6 : (6 : Int) ≤ (b.toNat : Int) - 48 := by
              have h1 := (digitI_iff _).1 hdg
              rcases Classical.em ((b.toNat : Int) ≤ 53) with h2 | h2
              · rw [inB_true.2 ⟨h1.1, h2⟩] at hd; cases hd
              · omega
            go_enter Tryz.func79, Tryz.ntmps79
            go_wp2_with (go_at_call 145; refine (digit_any _ _).mono ?_; rw [hdv.out]; rintro e _ ⟨rfl, rfl⟩)
            go_ret
            exact ⟨ret_int hr.out, by repeat (first | with_reducible exact bl_refl _ | with_reducible assumption | with_reducible refine bl_al ?_ _ | with_reducible refine bl_dr ?_ | with_reducible refine bl_tr ?_ (by assumption) | with_reducible refine bl_set ?_ ?_ _ | with_reducible exact Nat.le_refl _ | omega | (simp only [World.size_alloc, World.size_setCell, World.size_drew] at *; omega) | (dsimp only; omega) | (simp; done) | (simp; omega))⟩
        · have hr := Lib.hid ((colL_y ha hc hd).symm.trans hv)
          have h1 := inB_true.1 hd
          have hdg : digitI (b.toNat : Int) = true := (digitI_iff _).2 ⟨h1.1, by omega⟩
          have hdv := Lib.hid (digitV_yes hdg).1
          have hg6 : ¬ (6 : Int) ≤ (b.toNat : Int) - 48 := by omega
          go_enter Tryz.func79, Tryz.ntmps79
          go_wp2_with (go_at_call 145; refine (digit_any _ _).mono ?_; rw [hdv.out]; rintro e _ ⟨rfl, rfl⟩)
          go_ret
          exact ⟨ret_int hr.out, by repeat (first | with_reducible exact bl_refl _ | with_reducible assumption | with_reducible refine bl_al ?_ _ | with_reducible refine bl_dr ?_ | with_reducible refine bl_tr ?_ (by assumption) | with_reducible refine bl_set ?_ ?_ _ | with_reducible exact Nat.le_refl _ | omega | (simp only [World.size_alloc, World.size_setCell, World.size_drew] at *; omega) | (dsimp only; omega) | (simp; done) | (simp; omega))⟩
theorem inB_natP {x lo hi : Int} (h : inB x lo hi = true) (h0 : 0 ≤ lo) : ∃ k : Nat, x = k ∧ lo ≤ (k : Int) ∧ (k : Int) ≤ hi := by
  have := inB_true.1 h
  exact ⟨x.toNat, by omega, by omega, by omega⟩
/-- the colour at a point -/
noncomputable def colAt (ts : List Ti) (ys : List Pl) (x y : Int) : Int := if atI ys x y < 0 then -1 else colI (nameT_ ts (atI ys x y).toNat)
theorem colAt_none {ts : List Ti} {ys : List Pl} {x y : Int} (h : atI ys x y = -1) : colAt ts ys x y = -1 := by unfold colAt; rw [h, if_pos (by decide)]
theorem colAt_some {ts : List Ti} {ys : List Pl} {x y : Int} {t : Nat} {e : Ti} (h : atI ys x y = (t : Int)) (he : ts[t]? = some e) : colAt ts ys x y = colI e.name := by
  unfold colAt nameT_
  rw [h, if_neg (by omega)]
  have : ((t : Nat) : Int).toNat = t := by omega
  rw [this, he]
theorem colI_range (s : ByteArray) : colI s = -1 ∨ 0 ≤ colI s := by
  by_cases h : s.size < 4
  · exact .inl (colI_lt h)
  · obtain ⟨a, b, c, d, l, rfl⟩ := bytesL h
    rw [colI_eq]
    unfold colL
    split
    · rename_i h2
      simp only [Bool.and_eq_true] at h2
      have := inB_true.1 h2.2.2
      exact .inr (by omega)
    · exact .inl rfl
end Go.Proofs.YtjacdgdojemnkaaGreat
/- Walks: systems: the reference's test and the program's. -/

namespace Go.Proofs.YtjacdgdojemnkaaGreat
open Go.RowKit Go.Shelf
set_option linter.unusedSimpArgs false
set_option linter.unusedVariables false
attribute [local go_sem] BelowBy.cell BelowBy.cell_drew stillUpon givesUpon BelowBy.cell_drew2 BelowBy.cell_drew3

/-- a valid system -/
noncomputable def sysOkB (gs : List Gl) (ts : List Ti) (xs : List Pl) (t : Int) : Bool := decide (0 < xs.length) && (isStabR gs ts xs t).1
theorem isStabR_cases (gs : List Gl) (ts : List Ti) (xs : List Pl) (t : Int) : (∃ c : Int, c ≠ 0 ∧ isStabR gs ts xs t = (false, c)) ∨ ∃ b, isStabR gs ts xs t = (b, 0) := by
  unfold isStabR
  split
  · exact .inl ⟨1, by decide, rfl⟩
  · split
    · exact .inl ⟨2, by decide, rfl⟩
    · unfold stabVR stabR
      split
      · exact .inl ⟨4, by decide, rfl⟩
      · exact .inr ⟨_, rfl⟩
theorem sysOkB_valid {gs : List Gl} {ts : List Ti} {xs : List Pl} {t : Int} (h : sysOkB gs ts xs t = true) : validAsmB gs ts xs = true ∧ 0 < xs.length ∧ tempB t = true := by
  unfold sysOkB at h
  simp only [Bool.and_eq_true, decide_eq_true_eq] at h
  obtain ⟨h1, h2⟩ := h
  refine ⟨?_, h1, ?_⟩
  · cases hv : validAsmB gs ts xs
    · rw [← isStabR_no hv] at h2; cases h2
    · rfl
  · cases hv : validAsmB gs ts xs
    · rw [← isStabR_no hv] at h2; cases h2
    · cases ht : tempB t
      · rw [← isStabR_range hv ht] at h2; cases h2
      · rfl
structure SysAt (w : World) (p o : Nat) (gs : List Gl) (ts : List Ti) (xs : List Pl) (t : Int) : Prop where
  sat : SAt w p o p (o + 2) gs ts xs
  temp : w.cell? ⟨p, o + 3, none⟩ = some (.int .i64 t)
section
variable {w w' : World} {p o q oq : Nat} {gs : List Gl} {ts : List Ti} {xs : List Pl} {t : Int}
theorem SysAt.below (h : SysAt w p o gs ts xs t) (hb : Below w.heap.size w w') : SysAt w' p o gs ts xs t :=
  ⟨h.sat.below hb, (hb.cell (p := ⟨p, o + 3, none⟩) h.sat.s.lt).trans h.temp⟩
theorem SA.sysbox {G T A : Option Addr} {n m k : Nat} (h : SA w G n T m A k gs ts xs) (cg ct ca : Nat) (t : Int) : SysAt (w.alloc (Obj.cells #[.slice G n cg, .slice T m ct, .slice A k ca, .int .i64 t] 45)) w.heap.size 0 gs ts xs t :=
  ⟨⟨⟨by simp, ⟨G, n, cg, by go_simp, h.G.below RGl.stable (by repeat (first | with_reducible exact bl_refl _ | with_reducible assumption | with_reducible refine bl_al ?_ _ | with_reducible refine bl_dr ?_ | with_reducible refine bl_tr ?_ (by assumption) | with_reducible refine bl_set ?_ ?_ _ | with_reducible exact Nat.le_refl _ | omega | (simp only [World.size_alloc, World.size_setCell, World.size_drew] at *; omega) | (dsimp only; omega) | (simp; done) | (simp; omega)))⟩, ⟨T, m, ct, by go_simp, h.T.below RTi.stable (by repeat (first | with_reducible exact bl_refl _ | with_reducible assumption | with_reducible refine bl_al ?_ _ | with_reducible refine bl_dr ?_ | with_reducible refine bl_tr ?_ (by assumption) | with_reducible refine bl_set ?_ ?_ _ | with_reducible exact Nat.le_refl _ | omega | (simp only [World.size_alloc, World.size_setCell, World.size_drew] at *; omega) | (dsimp only; omega) | (simp; done) | (simp; omega)))⟩⟩, ⟨by simp, A, k, ca, by go_simp, h.A.below RPl.stable (by repeat (first | with_reducible exact bl_refl _ | with_reducible assumption | with_reducible refine bl_al ?_ _ | with_reducible refine bl_dr ?_ | with_reducible refine bl_tr ?_ (by assumption) | with_reducible refine bl_set ?_ ?_ _ | with_reducible exact Nat.le_refl _ | omega | (simp only [World.size_alloc, World.size_setCell, World.size_drew] at *; omega) | (dsimp only; omega) | (simp; done) | (simp; omega)))⟩,
    by rw [h.A.len]; exact h.q, by rw [h.G.len]; exact h.gm, by rw [h.T.len]; exact h.tm, h.gn, h.tn⟩, by go_simp⟩
theorem SAt.set {v : Bool} (h : SAt w p o q oq gs ts xs) (hv : validSetB gs ts = v) :
    Calls Tryz.prog 171 #[.pointer (some ⟨p, o, none⟩)] w fun e w' => e = .returned (.bool v) ∧ Below w.heap.size w w' := by
  rw [← hv]; exact l02Ok_any _ gs ts _ h.s (Nat.le_trans h.gm (by decide)) (Nat.le_trans h.tm (by decide)) h.gn h.tn
theorem SAt.form {v : Bool} (h : SAt w p o q oq gs ts xs) (hv : (hasFormB xs && allB xs.length (okTile ts.length xs)) = v) :
    Calls Tryz.prog 137 #[.pointer (some ⟨p, o, none⟩), .pointer (some ⟨q, oq, none⟩)] w fun e w' => e = .returned (.bool v) ∧ Below w.heap.size w w' := by
  rw [← hv]; exact l03Ok_any _ _ gs ts xs _ h.s h.a h.q (Nat.le_trans h.tm (by decide))
end
theorem l07Temperature_at (t : Int) (w : World) {v : Bool} (h : tempB t = v) : Calls Tryz.prog 114 #[.int .i64 t] w fun e w' => e = .returned (.bool v) ∧ w = w' := by
  rw [← h]; exact l07Temperature_any t w
set_option maxRecDepth 100000 in
set_option maxHeartbeats 4000000 in
theorem l08Ok_any {o : Nat} (p : Nat) (gs : List Gl) (ts : List Ti) (xs : List Pl) (t : Int) (w : World) (h : SysAt w p o gs ts xs t) :
    Calls Tryz.prog 136 #[.pointer (some ⟨p, o, none⟩)] w fun e w' => e = .returned (.bool (sysOkB gs ts xs t)) ∧ Below w.heap.size w w' := by
  
  have hS := Lib.hid h.sat
  have ct := h.temp
  have lp := h.sat.s.lt
  obtain ⟨lq, A, q, ca, cq, hA⟩ := h.sat.a
  have hlen := hA.len
  have hq0 := h.sat.q
  rw [hlen] at hq0
  have hlenH := Lib.hid hlen
  clear h hA hlen
  cases hv2 : validSetB gs ts
  · have hv2H := Lib.hid hv2
    have hr := Lib.hid (show false = sysOkB gs ts xs t by unfold sysOkB; rw [← isStabR_no (show validAsmB gs ts xs = false by unfold validAsmB; rw [hv2]; rfl)]; simp)
    clear hv2
    go_enter Tryz.func136, Tryz.ntmps136
    go_wp2
    refine wp_region_ord [(0, .q), (1, .q), (2, .q), (3, .g), (4, .q), (5, .q), (6, .q), (7, .q), (8, .q), (9, .q), (10, .q), (11, .q), (12, .g), (13, .q), (14, .q), (15, .q), (16, .q), (17, .q), (18, .q), (19, .q), (20, .q), (21, .q), (22, .q), (23, .q), (24, .q), (25, .q), (26, .q), (27, .q), (28, .q), (29, .g), (30, .q), (31, .q)] (by kernel_rfl) (by kernel_rfl) ?_
    simp only [pick, List.filterMap_cons, List.filterMap_nil, List.getElem?_toArray, List.getElem?_cons_zero, List.getElem?_cons_succ, Option.map_some]
    repeat (first
      | ((with_reducible refine wpD_p (fun K hK => ?_)); go_simp; refine hK _ ?_; clear hK K)
      | ((with_reducible refine wpD_q (fun K hK => ?_)); go_simp; (first | refine hK _ ?_ | (go_bits; refine hK _ ?_) | (go_bits; go_simp; refine hK _ ?_)); clear hK K)
      | ((with_reducible refine wpD_g (fun K hK => ?_)); go_simp; refine hK _ _ ?_; clear hK K)
      | ((with_reducible refine wpD_g (fun K hK => ?_)); go_simp; refine ⟨Grew.of_alloc _, hK _ _ ?_⟩; clear hK K)
      | ((with_reducible refine wpD_g (fun K hK => ?_)); go_simp; go_at_call 171; refine ((hS.out.below (by repeat (first | with_reducible exact bl_refl _ | with_reducible assumption | with_reducible refine bl_al ?_ _ | with_reducible refine bl_dr ?_ | with_reducible refine bl_tr ?_ (by assumption) | with_reducible refine bl_set ?_ ?_ _ | with_reducible exact Nat.le_refl _ | omega | (simp only [World.size_alloc, World.size_setCell, World.size_drew] at *; omega) | (dsimp only; omega) | (simp; done) | (simp; omega)))).set hv2H.out).mono ?_; rintro e w1 ⟨rfl, hb1⟩; refine ⟨_, rfl, hb1, hK _ _ ?_⟩; clear hK K; obtain ⟨chb1, fhb1, shb1, thb1⟩ := bcell hb1; (try have bhb10 := shb1 (p) (by go_simp)); have cq1 := (hb1.cell (p := ⟨p, o + 2, none⟩) (by simpa using lp)).trans (show _ = some (Value.slice A q ca) by simpa using cq); have ct1 := (hb1.cell (p := ⟨p, o + 3, none⟩) (by simpa using lp)).trans (show _ = some (Value.int .i64 t) by simpa using ct)))
    with_reducible refine wpD_nil ?_
    go_wp2
    go_ret
    exact ⟨ret_bool hr.out, by repeat (first | with_reducible exact bl_refl _ | with_reducible assumption | with_reducible refine bl_al ?_ _ | with_reducible refine bl_dr ?_ | with_reducible refine bl_tr ?_ (by assumption) | with_reducible refine bl_set ?_ ?_ _ | with_reducible exact Nat.le_refl _ | omega | (simp only [World.size_alloc, World.size_setCell, World.size_drew] at *; omega) | (dsimp only; omega) | (simp; done) | (simp; omega))⟩
  · have hv2H := Lib.hid hv2
    cases hv3 : (hasFormB xs && allB xs.length (okTile ts.length xs))
    · have hv3H := Lib.hid hv3
      have hr := Lib.hid (show false = sysOkB gs ts xs t by unfold sysOkB; rw [← isStabR_no (show validAsmB gs ts xs = false by unfold validAsmB; rw [hv2, hv3]; rfl)]; simp)
      clear hv2 hv3
      go_enter Tryz.func136, Tryz.ntmps136
      go_wp2
      refine wp_region_ord [(0, .q), (1, .q), (2, .q), (3, .g), (4, .q), (5, .q), (6, .q), (7, .q), (8, .q), (9, .q), (10, .q), (11, .q), (12, .g), (13, .q), (14, .q), (15, .q), (16, .q), (17, .q), (18, .q), (19, .q), (20, .q), (21, .q), (22, .q), (23, .q), (24, .q), (25, .q), (26, .q), (27, .q), (28, .q), (29, .g), (30, .q), (31, .q)] (by kernel_rfl) (by kernel_rfl) ?_
      simp only [pick, List.filterMap_cons, List.filterMap_nil, List.getElem?_toArray, List.getElem?_cons_zero, List.getElem?_cons_succ, Option.map_some]
      repeat (first
        | ((with_reducible refine wpD_p (fun K hK => ?_)); go_simp; refine hK _ ?_; clear hK K)
        | ((with_reducible refine wpD_q (fun K hK => ?_)); go_simp; (first | refine hK _ ?_ | (go_bits; refine hK _ ?_) | (go_bits; go_simp; refine hK _ ?_)); clear hK K)
        | ((with_reducible refine wpD_g (fun K hK => ?_)); go_simp; refine hK _ _ ?_; clear hK K)
        | ((with_reducible refine wpD_g (fun K hK => ?_)); go_simp; refine ⟨Grew.of_alloc _, hK _ _ ?_⟩; clear hK K)
        | ((with_reducible refine wpD_g (fun K hK => ?_)); go_simp; go_at_call 171; refine ((hS.out.below (by repeat (first | with_reducible exact bl_refl _ | with_reducible assumption | with_reducible refine bl_al ?_ _ | with_reducible refine bl_dr ?_ | with_reducible refine bl_tr ?_ (by assumption) | with_reducible refine bl_set ?_ ?_ _ | with_reducible exact Nat.le_refl _ | omega | (simp only [World.size_alloc, World.size_setCell, World.size_drew] at *; omega) | (dsimp only; omega) | (simp; done) | (simp; omega)))).set hv2H.out).mono ?_; rintro e w1 ⟨rfl, hb1⟩; refine ⟨_, rfl, hb1, hK _ _ ?_⟩; clear hK K; obtain ⟨chb1, fhb1, shb1, thb1⟩ := bcell hb1; (try have bhb10 := shb1 (p) (by go_simp)); have cq1 := (hb1.cell (p := ⟨p, o + 2, none⟩) (by simpa using lp)).trans (show _ = some (Value.slice A q ca) by simpa using cq); have ct1 := (hb1.cell (p := ⟨p, o + 3, none⟩) (by simpa using lp)).trans (show _ = some (Value.int .i64 t) by simpa using ct))
        | ((with_reducible refine wpD_g (fun K hK => ?_)); go_simp; go_at_call 137; refine ((hS.out.below (by repeat (first | with_reducible exact bl_refl _ | with_reducible assumption | with_reducible refine bl_al ?_ _ | with_reducible refine bl_dr ?_ | with_reducible refine bl_tr ?_ (by assumption) | with_reducible refine bl_set ?_ ?_ _ | with_reducible exact Nat.le_refl _ | omega | (simp only [World.size_alloc, World.size_setCell, World.size_drew] at *; omega) | (dsimp only; omega) | (simp; done) | (simp; omega)))).form hv3H.out).mono ?_; rintro e w2 ⟨rfl, hb2⟩; refine ⟨_, rfl, hb2, hK _ _ ?_⟩; clear hK K; obtain ⟨chb2, fhb2, shb2, thb2⟩ := bcell hb2; (try have bhb20 := shb2 (p) (by go_simp)); have cq2 := (hb2.cell (p := ⟨p, o + 2, none⟩) bhb10).trans cq1; have ct2 := (hb2.cell (p := ⟨p, o + 3, none⟩) bhb10).trans ct1))
      with_reducible refine wpD_nil ?_
      go_wp2
      go_ret
      exact ⟨ret_bool hr.out, by repeat (first | with_reducible exact bl_refl _ | with_reducible assumption | with_reducible refine bl_al ?_ _ | with_reducible refine bl_dr ?_ | with_reducible refine bl_tr ?_ (by assumption) | with_reducible refine bl_set ?_ ?_ _ | with_reducible exact Nat.le_refl _ | omega | (simp only [World.size_alloc, World.size_setCell, World.size_drew] at *; omega) | (dsimp only; omega) | (simp; done) | (simp; omega))⟩
    · have hv3H := Lib.hid hv3
      have hval : validAsmB gs ts xs = true := by unfold validAsmB; rw [hv2, hv3]; rfl
      have hvH := Lib.hid hval
      have hV := valid_of hval
      clear hv2 hv3 hval
      by_cases hq1 : q = 0
      · subst hq1
        have hr := Lib.hid (show false = sysOkB gs ts xs t by unfold sysOkB; rw [hlenH.out]; rfl)
        go_enter Tryz.func136, Tryz.ntmps136
        go_wp2
        refine wp_region_ord [(0, .q), (1, .q), (2, .q), (3, .g), (4, .q), (5, .q), (6, .q), (7, .q), (8, .q), (9, .q), (10, .q), (11, .q), (12, .g), (13, .q), (14, .q), (15, .q), (16, .q), (17, .q), (18, .q), (19, .q), (20, .q), (21, .q), (22, .q), (23, .q), (24, .q), (25, .q), (26, .q), (27, .q), (28, .q), (29, .g), (30, .q), (31, .q)] (by kernel_rfl) (by kernel_rfl) ?_
        simp only [pick, List.filterMap_cons, List.filterMap_nil, List.getElem?_toArray, List.getElem?_cons_zero, List.getElem?_cons_succ, Option.map_some]
        repeat (first
          | ((with_reducible refine wpD_p (fun K hK => ?_)); go_simp; refine hK _ ?_; clear hK K)
          | ((with_reducible refine wpD_q (fun K hK => ?_)); go_simp; (first | refine hK _ ?_ | (go_bits; refine hK _ ?_) | (go_bits; go_simp; refine hK _ ?_)); clear hK K)
          | ((with_reducible refine wpD_g (fun K hK => ?_)); go_simp; refine hK _ _ ?_; clear hK K)
          | ((with_reducible refine wpD_g (fun K hK => ?_)); go_simp; refine ⟨Grew.of_alloc _, hK _ _ ?_⟩; clear hK K)
          | ((with_reducible refine wpD_g (fun K hK => ?_)); go_simp; go_at_call 171; refine ((hS.out.below (by repeat (first | with_reducible exact bl_refl _ | with_reducible assumption | with_reducible refine bl_al ?_ _ | with_reducible refine bl_dr ?_ | with_reducible refine bl_tr ?_ (by assumption) | with_reducible refine bl_set ?_ ?_ _ | with_reducible exact Nat.le_refl _ | omega | (simp only [World.size_alloc, World.size_setCell, World.size_drew] at *; omega) | (dsimp only; omega) | (simp; done) | (simp; omega)))).set hv2H.out).mono ?_; rintro e w1 ⟨rfl, hb1⟩; refine ⟨_, rfl, hb1, hK _ _ ?_⟩; clear hK K; obtain ⟨chb1, fhb1, shb1, thb1⟩ := bcell hb1; (try have bhb10 := shb1 (p) (by go_simp)); have cq1 := (hb1.cell (p := ⟨p, o + 2, none⟩) (by simpa using lp)).trans (show _ = some (Value.slice A 0 ca) by simpa using cq); have ct1 := (hb1.cell (p := ⟨p, o + 3, none⟩) (by simpa using lp)).trans (show _ = some (Value.int .i64 t) by simpa using ct))
          | ((with_reducible refine wpD_g (fun K hK => ?_)); go_simp; go_at_call 137; refine ((hS.out.below (by repeat (first | with_reducible exact bl_refl _ | with_reducible assumption | with_reducible refine bl_al ?_ _ | with_reducible refine bl_dr ?_ | with_reducible refine bl_tr ?_ (by assumption) | with_reducible refine bl_set ?_ ?_ _ | with_reducible exact Nat.le_refl _ | omega | (simp only [World.size_alloc, World.size_setCell, World.size_drew] at *; omega) | (dsimp only; omega) | (simp; done) | (simp; omega)))).form hv3H.out).mono ?_; rintro e w2 ⟨rfl, hb2⟩; refine ⟨_, rfl, hb2, hK _ _ ?_⟩; clear hK K; obtain ⟨chb2, fhb2, shb2, thb2⟩ := bcell hb2; (try have bhb20 := shb2 (p) (by go_simp)); have cq2 := (hb2.cell (p := ⟨p, o + 2, none⟩) bhb10).trans cq1; have ct2 := (hb2.cell (p := ⟨p, o + 3, none⟩) bhb10).trans ct1))
        with_reducible refine wpD_nil ?_
        go_wp2
        go_ret
        exact ⟨ret_bool hr.out, by repeat (first | with_reducible exact bl_refl _ | with_reducible assumption | with_reducible refine bl_al ?_ _ | with_reducible refine bl_dr ?_ | with_reducible refine bl_tr ?_ (by assumption) | with_reducible refine bl_set ?_ ?_ _ | with_reducible exact Nat.le_refl _ | omega | (simp only [World.size_alloc, World.size_setCell, World.size_drew] at *; omega) | (dsimp only; omega) | (simp; done) | (simp; omega))⟩
      · have hqd : ((q : Int) == 0) = false := by simp; omega
        have hqH := Lib.hid hq1
        cases htm : tempB t
        · have htH := Lib.hid htm
          have hr := Lib.hid (show false = sysOkB gs ts xs t by unfold sysOkB; rw [← isStabR_range hvH.out htm]; simp)
          clear htm
          go_enter Tryz.func136, Tryz.ntmps136
          go_wp2
          refine wp_region_ord [(0, .q), (1, .q), (2, .q), (3, .g), (4, .q), (5, .q), (6, .q), (7, .q), (8, .q), (9, .q), (10, .q), (11, .q), (12, .g), (13, .q), (14, .q), (15, .q), (16, .q), (17, .q), (18, .q), (19, .q), (20, .q), (21, .q), (22, .q), (23, .q), (24, .q), (25, .q), (26, .q), (27, .q), (28, .q), (29, .g), (30, .q), (31, .q)] (by kernel_rfl) (by kernel_rfl) ?_
          simp only [pick, List.filterMap_cons, List.filterMap_nil, List.getElem?_toArray, List.getElem?_cons_zero, List.getElem?_cons_succ, Option.map_some]
          repeat (first
            | ((with_reducible refine wpD_p (fun K hK => ?_)); go_simp; refine hK _ ?_; clear hK K)
            | ((with_reducible refine wpD_q (fun K hK => ?_)); go_simp; (first | refine hK _ ?_ | (go_bits; refine hK _ ?_) | (go_bits; go_simp; refine hK _ ?_)); clear hK K)
            | ((with_reducible refine wpD_g (fun K hK => ?_)); go_simp; refine hK _ _ ?_; clear hK K)
            | ((with_reducible refine wpD_g (fun K hK => ?_)); go_simp; refine ⟨Grew.of_alloc _, hK _ _ ?_⟩; clear hK K)
            | ((with_reducible refine wpD_g (fun K hK => ?_)); go_simp; go_at_call 171; refine ((hS.out.below (by repeat (first | with_reducible exact bl_refl _ | with_reducible assumption | with_reducible refine bl_al ?_ _ | with_reducible refine bl_dr ?_ | with_reducible refine bl_tr ?_ (by assumption) | with_reducible refine bl_set ?_ ?_ _ | with_reducible exact Nat.le_refl _ | omega | (simp only [World.size_alloc, World.size_setCell, World.size_drew] at *; omega) | (dsimp only; omega) | (simp; done) | (simp; omega)))).set hv2H.out).mono ?_; rintro e w1 ⟨rfl, hb1⟩; refine ⟨_, rfl, hb1, hK _ _ ?_⟩; clear hK K; obtain ⟨chb1, fhb1, shb1, thb1⟩ := bcell hb1; (try have bhb10 := shb1 (p) (by go_simp)); have cq1 := (hb1.cell (p := ⟨p, o + 2, none⟩) (by simpa using lp)).trans (show _ = some (Value.slice A q ca) by simpa using cq); have ct1 := (hb1.cell (p := ⟨p, o + 3, none⟩) (by simpa using lp)).trans (show _ = some (Value.int .i64 t) by simpa using ct))
            | ((with_reducible refine wpD_g (fun K hK => ?_)); go_simp; go_at_call 137; refine ((hS.out.below (by repeat (first | with_reducible exact bl_refl _ | with_reducible assumption | with_reducible refine bl_al ?_ _ | with_reducible refine bl_dr ?_ | with_reducible refine bl_tr ?_ (by assumption) | with_reducible refine bl_set ?_ ?_ _ | with_reducible exact Nat.le_refl _ | omega | (simp only [World.size_alloc, World.size_setCell, World.size_drew] at *; omega) | (dsimp only; omega) | (simp; done) | (simp; omega)))).form hv3H.out).mono ?_; rintro e w2 ⟨rfl, hb2⟩; refine ⟨_, rfl, hb2, hK _ _ ?_⟩; clear hK K; obtain ⟨chb2, fhb2, shb2, thb2⟩ := bcell hb2; (try have bhb20 := shb2 (p) (by go_simp)); have cq2 := (hb2.cell (p := ⟨p, o + 2, none⟩) bhb10).trans cq1; have ct2 := (hb2.cell (p := ⟨p, o + 3, none⟩) bhb10).trans ct1)
            | ((with_reducible refine wpD_g (fun K hK => ?_)); go_simp; go_at_call 114; refine (l07Temperature_at t _ htH.out).mono ?_; rintro e _ ⟨rfl, rfl⟩; refine ⟨_, rfl, Below.refl _ _, hK _ _ ?_⟩; clear hK K))
          with_reducible refine wpD_nil ?_
          go_wp2
          go_ret
          exact ⟨ret_bool hr.out, by repeat (first | with_reducible exact bl_refl _ | with_reducible assumption | with_reducible refine bl_al ?_ _ | with_reducible refine bl_dr ?_ | with_reducible refine bl_tr ?_ (by assumption) | with_reducible refine bl_set ?_ ?_ _ | with_reducible exact Nat.le_refl _ | omega | (simp only [World.size_alloc, World.size_setCell, World.size_drew] at *; omega) | (dsimp only; omega) | (simp; done) | (simp; omega))⟩
        · have htH := Lib.hid htm
          obtain ⟨tn, rfl, ht1, ht2⟩ := tempB_true htm
          have hrr := isStabR_yes hvH.out htm
          have hrH := Lib.hid hrr
          have hsy := Lib.hid (show (isStabR gs ts xs tn).1 = sysOkB gs ts xs tn by unfold sysOkB; rw [hlenH.out, decide_eq_true (show 0 < q by omega), Bool.true_and])
          clear htm hrr
          rcases isStabR_cases gs ts xs tn with ⟨c, hc, hcr⟩ | ⟨b, hcr⟩
          · have hcrH := Lib.hid hcr
            clear hcr
            go_enter Tryz.func136, Tryz.ntmps136
            go_wp2
            refine wp_region_ord [(0, .q), (1, .q), (2, .q), (3, .g), (4, .q), (5, .q), (6, .q), (7, .q), (8, .q), (9, .q), (10, .q), (11, .q), (12, .g), (13, .q), (14, .q), (15, .q), (16, .q), (17, .q), (18, .q), (19, .q), (20, .q), (21, .q), (22, .q), (23, .q), (24, .q), (25, .q), (26, .q), (27, .q), (28, .q), (29, .g), (30, .q), (31, .q)] (by kernel_rfl) (by kernel_rfl) ?_
            simp only [pick, List.filterMap_cons, List.filterMap_nil, List.getElem?_toArray, List.getElem?_cons_zero, List.getElem?_cons_succ, Option.map_some]
            repeat (first
              | ((with_reducible refine wpD_p (fun K hK => ?_)); go_simp; refine hK _ ?_; clear hK K)
              | ((with_reducible refine wpD_q (fun K hK => ?_)); go_simp; (first | refine hK _ ?_ | (go_bits; refine hK _ ?_) | (go_bits; go_simp; refine hK _ ?_)); clear hK K)
              | ((with_reducible refine wpD_g (fun K hK => ?_)); go_simp; refine hK _ _ ?_; clear hK K)
              | ((with_reducible refine wpD_g (fun K hK => ?_)); go_simp; refine ⟨Grew.of_alloc _, hK _ _ ?_⟩; clear hK K)
              | ((with_reducible refine wpD_g (fun K hK => ?_)); go_simp; go_at_call 171; refine ((hS.out.below (by repeat (first | with_reducible exact bl_refl _ | with_reducible assumption | with_reducible refine bl_al ?_ _ | with_reducible refine bl_dr ?_ | with_reducible refine bl_tr ?_ (by assumption) | with_reducible refine bl_set ?_ ?_ _ | with_reducible exact Nat.le_refl _ | omega | (simp only [World.size_alloc, World.size_setCell, World.size_drew] at *; omega) | (dsimp only; omega) | (simp; done) | (simp; omega)))).set hv2H.out).mono ?_; rintro e w1 ⟨rfl, hb1⟩; refine ⟨_, rfl, hb1, hK _ _ ?_⟩; clear hK K; obtain ⟨chb1, fhb1, shb1, thb1⟩ := bcell hb1; (try have bhb10 := shb1 (p) (by go_simp)); have cq1 := (hb1.cell (p := ⟨p, o + 2, none⟩) (by simpa using lp)).trans (show _ = some (Value.slice A q ca) by simpa using cq); have ct1 := (hb1.cell (p := ⟨p, o + 3, none⟩) (by simpa using lp)).trans (show _ = some (Value.int .i64 (tn : Int)) by simpa using ct))
              | ((with_reducible refine wpD_g (fun K hK => ?_)); go_simp; go_at_call 137; refine ((hS.out.below (by repeat (first | with_reducible exact bl_refl _ | with_reducible assumption | with_reducible refine bl_al ?_ _ | with_reducible refine bl_dr ?_ | with_reducible refine bl_tr ?_ (by assumption) | with_reducible refine bl_set ?_ ?_ _ | with_reducible exact Nat.le_refl _ | omega | (simp only [World.size_alloc, World.size_setCell, World.size_drew] at *; omega) | (dsimp only; omega) | (simp; done) | (simp; omega)))).form hv3H.out).mono ?_; rintro e w2 ⟨rfl, hb2⟩; refine ⟨_, rfl, hb2, hK _ _ ?_⟩; clear hK K; obtain ⟨chb2, fhb2, shb2, thb2⟩ := bcell hb2; (try have bhb20 := shb2 (p) (by go_simp)); have cq2 := (hb2.cell (p := ⟨p, o + 2, none⟩) bhb10).trans cq1; have ct2 := (hb2.cell (p := ⟨p, o + 3, none⟩) bhb10).trans ct1)
              | ((with_reducible refine wpD_g (fun K hK => ?_)); go_simp; go_at_call 114; refine (l07Temperature_at tn _ htH.out).mono ?_; rintro e _ ⟨rfl, rfl⟩; refine ⟨_, rfl, Below.refl _ _, hK _ _ ?_⟩; clear hK K))
            with_reducible refine wpD_nil ?_
            go_wp2
            refine wp_region_ord [(0, .q), (1, .q), (2, .q), (3, .q), (4, .q), (5, .q), (6, .q), (7, .q), (8, .q), (9, .q), (10, .g), (11, .q), (12, .q), (13, .q), (14, .q), (15, .q)] (by kernel_rfl) (by kernel_rfl) ?_
            simp only [pick, List.filterMap_cons, List.filterMap_nil, List.getElem?_toArray, List.getElem?_cons_zero, List.getElem?_cons_succ, Option.map_some]
            repeat (first | ((with_reducible refine wpD_p (fun K hK => ?_)); go_simp; refine hK _ ?_; clear hK K) | ((with_reducible refine wpD_q (fun K hK => ?_)); go_simp; (first | refine hK _ ?_ | (go_bits; refine hK _ ?_) | (go_bits; go_simp; refine hK _ ?_)); clear hK K))
            with_reducible refine wpD_g (fun K hK => ?_)
            go_simp
            refine (l07Stable_any (hS.out.below (by repeat (first | with_reducible exact bl_refl _ | with_reducible assumption | with_reducible refine bl_al ?_ _ | with_reducible refine bl_dr ?_ | with_reducible refine bl_tr ?_ (by assumption) | with_reducible refine bl_set ?_ ?_ _ | with_reducible exact Nat.le_refl _ | omega | (simp only [World.size_alloc, World.size_setCell, World.size_drew] at *; omega) | (dsimp only; omega) | (simp; done) | (simp; omega)))) hV tn (by omega)).mono ?_
            rw [hrH.out, hcrH.out]
            rintro e w3 ⟨rfl, hb3⟩
            refine ⟨_, rfl, hb3, hK _ _ ?_⟩
            clear hK K
            repeat (first | ((with_reducible refine wpD_p (fun K hK => ?_)); go_simp; refine hK _ ?_; clear hK K) | ((with_reducible refine wpD_q (fun K hK => ?_)); go_simp; (first | refine hK _ ?_ | (go_bits; refine hK _ ?_) | (go_bits; go_simp; refine hK _ ?_)); clear hK K))
            with_reducible refine wpD_nil ?_
            go_wp2
            go_ret
            exact ⟨ret_bool (by rw [← hsy.out, hcrH.out]), by repeat (first | with_reducible exact bl_refl _ | with_reducible assumption | with_reducible refine bl_al ?_ _ | with_reducible refine bl_dr ?_ | with_reducible refine bl_tr ?_ (by assumption) | with_reducible refine bl_set ?_ ?_ _ | with_reducible exact Nat.le_refl _ | omega | (simp only [World.size_alloc, World.size_setCell, World.size_drew] at *; omega) | (dsimp only; omega) | (simp; done) | (simp; omega))⟩
          · have hcrH := Lib.hid hcr
            clear hcr
            cases b
            all_goals
              go_enter Tryz.func136, Tryz.ntmps136
              go_wp2
              refine wp_region_ord [(0, .q), (1, .q), (2, .q), (3, .g), (4, .q), (5, .q), (6, .q), (7, .q), (8, .q), (9, .q), (10, .q), (11, .q), (12, .g), (13, .q), (14, .q), (15, .q), (16, .q), (17, .q), (18, .q), (19, .q), (20, .q), (21, .q), (22, .q), (23, .q), (24, .q), (25, .q), (26, .q), (27, .q), (28, .q), (29, .g), (30, .q), (31, .q)] (by kernel_rfl) (by kernel_rfl) ?_
              simp only [pick, List.filterMap_cons, List.filterMap_nil, List.getElem?_toArray, List.getElem?_cons_zero, List.getElem?_cons_succ, Option.map_some]
              repeat (first
                | ((with_reducible refine wpD_p (fun K hK => ?_)); go_simp; refine hK _ ?_; clear hK K)
                | ((with_reducible refine wpD_q (fun K hK => ?_)); go_simp; (first | refine hK _ ?_ | (go_bits; refine hK _ ?_) | (go_bits; go_simp; refine hK _ ?_)); clear hK K)
                | ((with_reducible refine wpD_g (fun K hK => ?_)); go_simp; refine hK _ _ ?_; clear hK K)
                | ((with_reducible refine wpD_g (fun K hK => ?_)); go_simp; refine ⟨Grew.of_alloc _, hK _ _ ?_⟩; clear hK K)
                | ((with_reducible refine wpD_g (fun K hK => ?_)); go_simp; go_at_call 171; refine ((hS.out.below (by repeat (first | with_reducible exact bl_refl _ | with_reducible assumption | with_reducible refine bl_al ?_ _ | with_reducible refine bl_dr ?_ | with_reducible refine bl_tr ?_ (by assumption) | with_reducible refine bl_set ?_ ?_ _ | with_reducible exact Nat.le_refl _ | omega | (simp only [World.size_alloc, World.size_setCell, World.size_drew] at *; omega) | (dsimp only; omega) | (simp; done) | (simp; omega)))).set hv2H.out).mono ?_; rintro e w1 ⟨rfl, hb1⟩; refine ⟨_, rfl, hb1, hK _ _ ?_⟩; clear hK K; obtain ⟨chb1, fhb1, shb1, thb1⟩ := bcell hb1; (try have bhb10 := shb1 (p) (by go_simp)); have cq1 := (hb1.cell (p := ⟨p, o + 2, none⟩) (by simpa using lp)).trans (show _ = some (Value.slice A q ca) by simpa using cq); have ct1 := (hb1.cell (p := ⟨p, o + 3, none⟩) (by simpa using lp)).trans (show _ = some (Value.int .i64 (tn : Int)) by simpa using ct))
                | ((with_reducible refine wpD_g (fun K hK => ?_)); go_simp; go_at_call 137; refine ((hS.out.below (by repeat (first | with_reducible exact bl_refl _ | with_reducible assumption | with_reducible refine bl_al ?_ _ | with_reducible refine bl_dr ?_ | with_reducible refine bl_tr ?_ (by assumption) | with_reducible refine bl_set ?_ ?_ _ | with_reducible exact Nat.le_refl _ | omega | (simp only [World.size_alloc, World.size_setCell, World.size_drew] at *; omega) | (dsimp only; omega) | (simp; done) | (simp; omega)))).form hv3H.out).mono ?_; rintro e w2 ⟨rfl, hb2⟩; refine ⟨_, rfl, hb2, hK _ _ ?_⟩; clear hK K; obtain ⟨chb2, fhb2, shb2, thb2⟩ := bcell hb2; (try have bhb20 := shb2 (p) (by go_simp)); have cq2 := (hb2.cell (p := ⟨p, o + 2, none⟩) bhb10).trans cq1; have ct2 := (hb2.cell (p := ⟨p, o + 3, none⟩) bhb10).trans ct1)
                | ((with_reducible refine wpD_g (fun K hK => ?_)); go_simp; go_at_call 114; refine (l07Temperature_at tn _ htH.out).mono ?_; rintro e _ ⟨rfl, rfl⟩; refine ⟨_, rfl, Below.refl _ _, hK _ _ ?_⟩; clear hK K))
              with_reducible refine wpD_nil ?_
              go_wp2
              refine wp_region_ord [(0, .q), (1, .q), (2, .q), (3, .q), (4, .q), (5, .q), (6, .q), (7, .q), (8, .q), (9, .q), (10, .g), (11, .q), (12, .q), (13, .q), (14, .q), (15, .q)] (by kernel_rfl) (by kernel_rfl) ?_
              simp only [pick, List.filterMap_cons, List.filterMap_nil, List.getElem?_toArray, List.getElem?_cons_zero, List.getElem?_cons_succ, Option.map_some]
              repeat (first | ((with_reducible refine wpD_p (fun K hK => ?_)); go_simp; refine hK _ ?_; clear hK K) | ((with_reducible refine wpD_q (fun K hK => ?_)); go_simp; (first | refine hK _ ?_ | (go_bits; refine hK _ ?_) | (go_bits; go_simp; refine hK _ ?_)); clear hK K))
              with_reducible refine wpD_g (fun K hK => ?_)
              go_simp
              refine (l07Stable_any (hS.out.below (by repeat (first | with_reducible exact bl_refl _ | with_reducible assumption | with_reducible refine bl_al ?_ _ | with_reducible refine bl_dr ?_ | with_reducible refine bl_tr ?_ (by assumption) | with_reducible refine bl_set ?_ ?_ _ | with_reducible exact Nat.le_refl _ | omega | (simp only [World.size_alloc, World.size_setCell, World.size_drew] at *; omega) | (dsimp only; omega) | (simp; done) | (simp; omega)))) hV tn (by omega)).mono ?_
              rw [hrH.out, hcrH.out]
              rintro e w3 ⟨rfl, hb3⟩
              refine ⟨_, rfl, hb3, hK _ _ ?_⟩
              clear hK K
              repeat (first | ((with_reducible refine wpD_p (fun K hK => ?_)); go_simp; refine hK _ ?_; clear hK K) | ((with_reducible refine wpD_q (fun K hK => ?_)); go_simp; (first | refine hK _ ?_ | (go_bits; refine hK _ ?_) | (go_bits; go_simp; refine hK _ ?_)); clear hK K))
              with_reducible refine wpD_nil ?_
              go_wp2
              go_ret
              exact ⟨ret_bool (by rw [← hsy.out, hcrH.out]), by repeat (first | with_reducible exact bl_refl _ | with_reducible assumption | with_reducible refine bl_al ?_ _ | with_reducible refine bl_dr ?_ | with_reducible refine bl_tr ?_ (by assumption) | with_reducible refine bl_set ?_ ?_ _ | with_reducible exact Nat.le_refl _ | omega | (simp only [World.size_alloc, World.size_setCell, World.size_drew] at *; omega) | (dsimp only; omega) | (simp; done) | (simp; omega))⟩
set_option maxRecDepth 100000 in
set_option maxHeartbeats 2000000 in
theorem ValidSystem_any (G T A : Option Addr) (n cg m ct q ca : Nat) (gs : List Gl) (ts : List Ti) (xs : List Pl) (t : Int) (w : World) (h : SA w G n T m A q gs ts xs) :
    Calls Tryz.prog 143 #[.agg #[.slice G n cg, .slice T m ct, .slice A q ca, .int .i64 t]] w fun e w' => e = .returned (.bool (sysOkB gs ts xs t)) ∧ Below w.heap.size w w' := by
  
  have hSA := Lib.hid h
  have hlen := Lib.hid h.A.len
  have hq0 := h.q
  clear h
  by_cases hq1 : q = 0
  · subst hq1
    have hr := Lib.hid (show false = sysOkB gs ts xs t by unfold sysOkB; rw [hlen.out]; rfl)
    go_enter Tryz.func143, Tryz.ntmps143
    go_wp2
    go_ret
    exact ⟨ret_bool hr.out, by repeat (first | with_reducible exact bl_refl _ | with_reducible assumption | with_reducible refine bl_al ?_ _ | with_reducible refine bl_dr ?_ | with_reducible refine bl_tr ?_ (by assumption) | with_reducible refine bl_set ?_ ?_ _ | with_reducible exact Nat.le_refl _ | omega | (simp only [World.size_alloc, World.size_setCell, World.size_drew] at *; omega) | (dsimp only; omega) | (simp; done) | (simp; omega))⟩
  · have hqd : ((q : Int) == 0) = false := by simp; omega
    have hsy := Lib.hid (show (isStabR gs ts xs t).1 = sysOkB gs ts xs t by unfold sysOkB; rw [hlen.out, decide_eq_true (show 0 < q by omega), Bool.true_and])
    rcases isStabR_cases gs ts xs t with ⟨c, hc, hcr⟩ | ⟨b, hcr⟩
    · have hcrH := Lib.hid hcr
      clear hcr
      go_enter Tryz.func143, Tryz.ntmps143
      go_wp2_with (go_at_call 150; refine (IsStable_any G T A n cg m ct q ca gs ts xs t _ (hSA.out.below (by repeat (first | with_reducible exact bl_refl _ | with_reducible assumption | with_reducible refine bl_al ?_ _ | with_reducible refine bl_dr ?_ | with_reducible refine bl_tr ?_ (by assumption) | with_reducible refine bl_set ?_ ?_ _ | with_reducible exact Nat.le_refl _ | omega | (simp only [World.size_alloc, World.size_setCell, World.size_drew] at *; omega) | (dsimp only; omega) | (simp; done) | (simp; omega))))).mono ?_; rw [hcrH.out]; rintro e w1 ⟨rfl, hb1⟩)
      go_ret
      exact ⟨ret_bool (by rw [← hsy.out, hcrH.out]), by repeat (first | with_reducible exact bl_refl _ | with_reducible assumption | with_reducible refine bl_al ?_ _ | with_reducible refine bl_dr ?_ | with_reducible refine bl_tr ?_ (by assumption) | with_reducible refine bl_set ?_ ?_ _ | with_reducible exact Nat.le_refl _ | omega | (simp only [World.size_alloc, World.size_setCell, World.size_drew] at *; omega) | (dsimp only; omega) | (simp; done) | (simp; omega))⟩
    · have hcrH := Lib.hid hcr
      clear hcr
      cases b
      all_goals
        go_enter Tryz.func143, Tryz.ntmps143
        go_wp2_with (go_at_call 150; refine (IsStable_any G T A n cg m ct q ca gs ts xs t _ (hSA.out.below (by repeat (first | with_reducible exact bl_refl _ | with_reducible assumption | with_reducible refine bl_al ?_ _ | with_reducible refine bl_dr ?_ | with_reducible refine bl_tr ?_ (by assumption) | with_reducible refine bl_set ?_ ?_ _ | with_reducible exact Nat.le_refl _ | omega | (simp only [World.size_alloc, World.size_setCell, World.size_drew] at *; omega) | (dsimp only; omega) | (simp; done) | (simp; omega))))).mono ?_; rw [hcrH.out]; rintro e w1 ⟨rfl, hb1⟩)
        go_ret
        exact ⟨ret_bool (by rw [← hsy.out, hcrH.out]), by repeat (first | with_reducible exact bl_refl _ | with_reducible assumption | with_reducible refine bl_al ?_ _ | with_reducible refine bl_dr ?_ | with_reducible refine bl_tr ?_ (by assumption) | with_reducible refine bl_set ?_ ?_ _ | with_reducible exact Nat.le_refl _ | omega | (simp only [World.size_alloc, World.size_setCell, World.size_drew] at *; omega) | (dsimp only; omega) | (simp; done) | (simp; omega))⟩
end Go.Proofs.YtjacdgdojemnkaaGreat
/- Walks: the code of a system and an assembly; a glue by its name; the name of a tile's side. -/


namespace Go.Proofs.YtjacdgdojemnkaaGreat
open Go.RowKit Go.Shelf
set_option linter.unusedSimpArgs false
set_option linter.unusedVariables false
attribute [local go_sem] BelowBy.cell BelowBy.cell_drew stillUpon givesUpon BelowBy.cell_drew2 BelowBy.cell_drew3

/-- the error for a system and an assembly -/
noncomputable def growB (gs : List Gl) (ts : List Ti) (xs : List Pl) (t : Int) (ys : List Pl) : Bool := sysOkB gs ts xs t && validAsmB gs ts ys
theorem growB_true {gs : List Gl} {ts : List Ti} {xs : List Pl} {t : Int} {ys : List Pl} (h : growB gs ts xs t ys = true) : sysOkB gs ts xs t = true ∧ validAsmB gs ts ys = true := by
  simpa [growB] using h
theorem validSet_of {gs : List Gl} {ts : List Ti} {xs : List Pl} (h : validAsmB gs ts xs = true) : validSetB gs ts = true := by
  unfold validAsmB at h; simp only [Bool.and_eq_true] at h; exact h.1
theorem formB_of {gs : List Gl} {ts : List Ti} {ys : List Pl} (h : validSetB gs ts = true) : (hasFormB ys && allB ys.length (okTile ts.length ys)) = validAsmB gs ts ys := by
  unfold validAsmB; rw [h, Bool.true_and]
theorem growthCode_at {G T A C : Option Addr} {n cg m ct q ca k cc : Nat} {gs : List Gl} {ts : List Ti} {xs ys : List Pl} {t : Int} {w : World} (h : SA w G n T m A q gs ts xs) (h2 : SA w G n T m C k gs ts ys) {r : Bool} (hr : growB gs ts xs t ys = r) :
    Calls Tryz.prog 77 #[.agg #[.slice G n cg, .slice T m ct, .slice A q ca, .int .i64 t], .agg #[.slice C k cc]] w fun e w' => e = .returned (.int .i64 (codeB r)) ∧ Below w.heap.size w w' := by
  
  have hS := Lib.hid h
  have hA := Lib.hid h2
  have hrH := Lib.hid hr
  clear h h2 hr
  cases hs : sysOkB gs ts xs t
  · have hsH := Lib.hid hs
    have hr0 : r = false := by rw [← hrH.out]; simp [growB, hs]
    subst hr0
    clear hs
    go_enter Tryz.func77, Tryz.ntmps77
    go_wp2_with (go_at_call 143; refine (ValidSystem_any G T A n cg m ct q ca gs ts xs t _ (hS.out.below (by repeat (first | with_reducible exact bl_refl _ | with_reducible assumption | with_reducible refine bl_al ?_ _ | with_reducible refine bl_dr ?_ | with_reducible refine bl_tr ?_ (by assumption) | with_reducible refine bl_set ?_ ?_ _ | with_reducible exact Nat.le_refl _ | omega | (simp only [World.size_alloc, World.size_setCell, World.size_drew] at *; omega) | (dsimp only; omega) | (simp; done) | (simp; omega))))).mono ?_; rw [hsH.out]; rintro e w1 ⟨rfl, hb1⟩)
    go_ret
    exact ⟨rfl, by repeat (first | with_reducible exact bl_refl _ | with_reducible assumption | with_reducible refine bl_al ?_ _ | with_reducible refine bl_dr ?_ | with_reducible refine bl_tr ?_ (by assumption) | with_reducible refine bl_set ?_ ?_ _ | with_reducible exact Nat.le_refl _ | omega | (simp only [World.size_alloc, World.size_setCell, World.size_drew] at *; omega) | (dsimp only; omega) | (simp; done) | (simp; omega))⟩
  · have hsH := Lib.hid hs
    have hr0 : validAsmB gs ts ys = r := by rw [← hrH.out]; simp [growB, hs]
    have hr0H := Lib.hid hr0
    clear hs hr0
    cases r
    all_goals
      go_enter Tryz.func77, Tryz.ntmps77
      go_wp2_with (go_at_call 143; refine (ValidSystem_any G T A n cg m ct q ca gs ts xs t _ (hS.out.below (by repeat (first | with_reducible exact bl_refl _ | with_reducible assumption | with_reducible refine bl_al ?_ _ | with_reducible refine bl_dr ?_ | with_reducible refine bl_tr ?_ (by assumption) | with_reducible refine bl_set ?_ ?_ _ | with_reducible exact Nat.le_refl _ | omega | (simp only [World.size_alloc, World.size_setCell, World.size_drew] at *; omega) | (dsimp only; omega) | (simp; done) | (simp; omega))))).mono ?_; rw [hsH.out]; rintro e w1 ⟨rfl, hb1⟩; obtain ⟨chb1, fhb1, shb1, thb1⟩ := bcell hb1; (have b0 := shb1 w.heap.size (by go_simp)); (have b1 := shb1 (w.heap.size + 1) (by go_simp)))
      refine ((hA.out.below (by repeat (first | with_reducible exact bl_refl _ | with_reducible assumption | with_reducible refine bl_al ?_ _ | with_reducible refine bl_dr ?_ | with_reducible refine bl_tr ?_ (by assumption) | with_reducible refine bl_set ?_ ?_ _ | with_reducible exact Nat.le_refl _ | omega | (simp only [World.size_alloc, World.size_setCell, World.size_drew] at *; omega) | (dsimp only; omega) | (simp; done) | (simp; omega)))).valid hr0H.out).mono ?_
      rintro e w2 ⟨rfl, hb2⟩
      go_wp2
      go_ret
      exact ⟨rfl, by repeat (first | with_reducible exact bl_refl _ | with_reducible assumption | with_reducible refine bl_al ?_ _ | with_reducible refine bl_dr ?_ | with_reducible refine bl_tr ?_ (by assumption) | with_reducible refine bl_set ?_ ?_ _ | with_reducible exact Nat.le_refl _ | omega | (simp only [World.size_alloc, World.size_setCell, World.size_drew] at *; omega) | (dsimp only; omega) | (simp; done) | (simp; omega))⟩
theorem l08Asked_at {o p pa oa : Nat} {gs : List Gl} {ts : List Ti} {xs ys : List Pl} {t : Int} {w : World} (h : SysAt w p o gs ts xs t) (ha : AsmAt w pa oa ys) (hq : ys.length ≤ 1073741824) {r : Bool} (hr : growB gs ts xs t ys = r) :
    Calls Tryz.prog 74 #[.pointer (some ⟨p, o, none⟩), .pointer (some ⟨pa, oa, none⟩)] w fun e w' => e = .returned (.int .i64 (codeB r)) ∧ Below w.heap.size w w' := by
  
  have hS := Lib.hid h
  have hA := Lib.hid ha
  have hrH := Lib.hid hr
  have htm := h.sat.tm
  clear h ha hr
  cases hs : sysOkB gs ts xs t
  · have hsH := Lib.hid hs
    have hr0 : r = false := by rw [← hrH.out]; simp [growB, hs]
    subst hr0
    clear hs
    go_enter Tryz.func74, Tryz.ntmps74
    go_wp2_with (go_at_call 136; refine (l08Ok_any _ gs ts xs t _ hS.out).mono ?_; rw [hsH.out]; rintro e w1 ⟨rfl, hb1⟩)
    go_ret
    exact ⟨rfl, by repeat (first | with_reducible exact bl_refl _ | with_reducible assumption | with_reducible refine bl_al ?_ _ | with_reducible refine bl_dr ?_ | with_reducible refine bl_tr ?_ (by assumption) | with_reducible refine bl_set ?_ ?_ _ | with_reducible exact Nat.le_refl _ | omega | (simp only [World.size_alloc, World.size_setCell, World.size_drew] at *; omega) | (dsimp only; omega) | (simp; done) | (simp; omega))⟩
  · have hsH := Lib.hid hs
    have hfo := Lib.hid (show (hasFormB ys && allB ys.length (okTile ts.length ys)) = r by rw [formB_of (validSet_of (sysOkB_valid hs).1), ← hrH.out]; simp [growB, hs])
    clear hs
    cases r
    all_goals
      go_enter Tryz.func74, Tryz.ntmps74
      go_wp2_with (first
        | (go_at_call 136; refine (l08Ok_any _ gs ts xs t _ hS.out).mono ?_; rw [hsH.out]; rintro e w1 ⟨rfl, hb1⟩)
        | (go_at_call 137; refine (l03Ok_any _ _ gs ts ys _ (hS.out.sat.s.below (by repeat (first | with_reducible exact bl_refl _ | with_reducible assumption | with_reducible refine bl_al ?_ _ | with_reducible refine bl_dr ?_ | with_reducible refine bl_tr ?_ (by assumption) | with_reducible refine bl_set ?_ ?_ _ | with_reducible exact Nat.le_refl _ | omega | (simp only [World.size_alloc, World.size_setCell, World.size_drew] at *; omega) | (dsimp only; omega) | (simp; done) | (simp; omega)))) (hA.out.below (by repeat (first | with_reducible exact bl_refl _ | with_reducible assumption | with_reducible refine bl_al ?_ _ | with_reducible refine bl_dr ?_ | with_reducible refine bl_tr ?_ (by assumption) | with_reducible refine bl_set ?_ ?_ _ | with_reducible exact Nat.le_refl _ | omega | (simp only [World.size_alloc, World.size_setCell, World.size_drew] at *; omega) | (dsimp only; omega) | (simp; done) | (simp; omega)))) hq (by omega)).mono ?_; rw [hfo.out]; rintro e w2 ⟨rfl, hb2⟩))
      go_ret
      exact ⟨rfl, by repeat (first | with_reducible exact bl_refl _ | with_reducible assumption | with_reducible refine bl_al ?_ _ | with_reducible refine bl_dr ?_ | with_reducible refine bl_tr ?_ (by assumption) | with_reducible refine bl_set ?_ ?_ _ | with_reducible exact Nat.le_refl _ | omega | (simp only [World.size_alloc, World.size_setCell, World.size_drew] at *; omega) | (dsimp only; omega) | (simp; done) | (simp; omega))⟩
/-- a glue's number by its name, 0 if there is none -/
noncomputable def glueI (gs : List Gl) (s : ByteArray) : Nat := by
  classical
  exact match gs.findIdx? (fun g => decide (g.name = s)) with
    | some k => k + 1
    | none => 0
theorem glueI_at {gs : List Gl} {s : ByteArray} {k : Nat} {g : Gl} (hk : gs[k]? = some g) (h : g.name = s) (hb : ∀ j, j < k → ∀ e, gs[j]? = some e → e.name ≠ s) : glueI gs s = k + 1 := by
  classical
  obtain ⟨hkl, rfl⟩ := List.getElem?_eq_some_iff.1 hk
  have : gs.findIdx? (fun g => decide (g.name = s)) = some k := by
    rw [List.findIdx?_eq_some_iff_getElem]
    refine ⟨hkl, by simpa using h, fun j hj => ?_⟩
    have := hb j hj _ (List.getElem?_eq_getElem (by omega))
    simpa using this
  unfold glueI
  rw [this]
theorem glueI_none {gs : List Gl} {s : ByteArray} (hb : ∀ j, j < gs.length → ∀ e, gs[j]? = some e → e.name ≠ s) : glueI gs s = 0 := by
  classical
  have : gs.findIdx? (fun g => decide (g.name = s)) = none := by
    rw [List.findIdx?_eq_none_iff]
    intro e he
    obtain ⟨j, hj, rfl⟩ := List.mem_iff_getElem.1 he
    have := hb j hj _ (List.getElem?_eq_getElem hj)
    simpa using this
  unfold glueI
  rw [this]
set_option maxHeartbeats 1000000 in
theorem l02GlueN_any {op : Nat} (p : Nat) (gs : List Gl) (ts : List Ti) (s : ByteArray) (w : World) (h : SetAt w p op gs ts) (hm : gs.length ≤ 281474976710656) :
    Calls Tryz.prog 223 #[.pointer (some ⟨p, op, none⟩), .string s] w fun e w' => e = .returned (.int .i64 (glueI gs s : Int)) ∧ w = w' := by
  obtain ⟨hlt, ⟨A, n, c, h1, h2⟩, ⟨B, m, d, h3, h4⟩⟩ := h
  have hl := h2.len
  have h2H := Lib.hid h2
  clear h3 h4 h2
  go_enter Tryz.func223, Tryz.ntmps223
  go_wp2
  go_loopg [5] n (fun r x wr => ∃ k : Nat, k + r = n ∧ x = .int .i64 (k : Int) ∧ Hid (∀ j, j < k → ∀ e, gs[j]? = some e → e.name ≠ s) ∧ w = wr)
  case atStart => exact ⟨0, by omega, rfl, Lib.hid (fun j hj => by omega), rfl⟩
  case round =>
    obtain ⟨k, hk, rfl, hok, rfl⟩ := hrel
    by_cases hkn : k < n
    · obtain ⟨b, o, rfl, hbl, hc⟩ := h2H.out.ptr (by omega)
      obtain ⟨e, he⟩ := h2H.out.get hkn
      obtain ⟨c0, c1⟩ := hc k e he
      have heH := Lib.hid he
      clear hc he
      by_cases hn : e.name = s
      · have hn'' : (e.name.toList == s.toList) = true := (Lib.bytes_beq_iff _ _).2 hn
        have hr := Lib.hid (glueI_at heH.out hn hok.out)
        clear hn
        go_wp2
        go_ret
        exact ⟨ret_int (by rw [hr.out]; simp), rfl⟩
      · have hn'' : (e.name.toList == s.toList) = false := (Lib.bytes_beq_false_iff _ _).2 hn
        have hnH := Lib.hid hn
        clear hn
        go_wp2
        go_roundg (n - (k + 1))
        case measure => omega
        case rel => exact ⟨k + 1, by omega, by go_num, Lib.hid (fun j hj e' he' => by
            rcases Nat.lt_succ_iff_lt_or_eq.1 hj with hj | rfl
            · exact hok.out j hj e' he'
            · rw [← Option.some.inj (heH.out.symm.trans he')]
              exact hnH.out), rfl⟩
    · obtain rfl : k = n := by omega
      have hr := Lib.hid (glueI_none (gs := gs) (s := s) (fun j hj => hok.out j (by omega)))
      go_wp2
      go_ret
      exact ⟨ret_int (by rw [hr.out]; rfl), rfl⟩
/-- names of glues are all different -/
theorem names_ne {gs : List Gl} {ts : List Ti} (h : validSetB gs ts = true) {i j : Nat} {d e : Gl} (hi : gs[i]? = some d) (hj : gs[j]? = some e) (hn : d.name = e.name) : i = j := by
  have key : ∀ {i j : Nat} {d e : Gl}, gs[i]? = some d → gs[j]? = some e → d.name = e.name → ¬ i < j := fun {i j d e} hi hj hn hij => by
    unfold validSetB at h
    simp only [Bool.and_eq_true] at h
    have := allB_at h.2.1 (lt_of_get hj)
    unfold okGl at this
    rw [hj] at this
    simp only [Bool.and_eq_true] at this
    rw [freshG_false hj hij hi hn] at this
    cases this.2.2
  rcases Nat.lt_trichotomy i j with h1 | h1 | h1
  · exact (key hi hj hn h1).elim
  · exact h1
  · exact (key hj hi hn.symm h1).elim
theorem glueI_iff {gs : List Gl} {ts : List Ti} (h : validSetB gs ts = true) {k : Nat} {g : Gl} (hk : gs[k]? = some g) (s : ByteArray) : glueI gs s = k + 1 ↔ g.name = s := by
  constructor
  · intro he
    classical
    unfold glueI at he
    split at he
    · rename_i j hj
      obtain rfl : j = k := by omega
      rw [List.findIdx?_eq_some_iff_getElem] at hj
      obtain ⟨hl, h1, _⟩ := hj
      obtain ⟨_, rfl⟩ := List.getElem?_eq_some_iff.1 hk
      simpa using h1
    · omega
  · intro he
    exact glueI_at hk he (fun j hj e hej hn => by
      have := names_ne h hej hk (hn.trans he.symm)
      omega)
end Go.Proofs.YtjacdgdojemnkaaGreat
/- Plain: the pattern that an assembly shows. -/




namespace Go.Proofs.YtjacdgdojemnkaaGreat
open Go.RowKit
set_option linter.unusedSimpArgs false
set_option linter.unusedVariables false
/-- a pattern in a block of its own -/
structure PatQ (w : World) (p : Nat) (a b : Int) (v : Value) : Prop where
  lt : p < w.heap.size
  c0 : w.cell? ⟨p, 0, none⟩ = some (.int .i64 a)
  c1 : w.cell? ⟨p, 1, none⟩ = some (.int .i64 b)
  c2 : w.cell? ⟨p, 2, none⟩ = some v
  fr : w.frozen? ⟨p, 2, none⟩ = false
theorem PatQ.below {B p : Nat} {w w' : World} {a b : Int} {v : Value} (h : PatQ w p a b v) (hb : Below B w w') (hp : p < B) : PatQ w' p a b v :=
  ⟨Nat.lt_of_lt_of_le h.lt hb.size, (hb.cell (p := ⟨p, 0, none⟩) hp).trans h.c0, (hb.cell (p := ⟨p, 1, none⟩) hp).trans h.c1, (hb.cell (p := ⟨p, 2, none⟩) hp).trans h.c2, (hb.frozen (p := ⟨p, 2, none⟩) hp).trans h.fr⟩
theorem PatQ.new (w : World) (a b : Int) (v : Value) (t : TypeId) : PatQ (w.alloc (.cells #[.int .i64 a, .int .i64 b, v] t)) w.heap.size a b v :=
  ⟨by simp, by go_simp, by go_simp, by go_simp, by go_simp⟩
theorem PatQ.set {p : Nat} {w : World} {a b : Int} {v u : Value} (h : PatQ w p a b v) : PatQ (w.setCell ⟨p, 2, none⟩ u) p a b u := by
  obtain ⟨h1, h2, h3, h4, h5⟩ := h
  exact ⟨by simpa using h1, by go_simp, by go_simp, by go_simp, by go_simp⟩
/-- the cells of the pattern: y full rows and x cells of the next -/
noncomputable def rowC (ts : List Ti) (ys : List Pl) (y : Nat) : Nat → List Int
  | 0 => []
  | x + 1 => rowC ts ys y x ++ [colAt ts ys ((x : Int) + 1) ((y : Int) + 1)]
noncomputable def rowsC (ts : List Ti) (ys : List Pl) (W : Nat) : Nat → List Int
  | 0 => []
  | y + 1 => rowsC ts ys W y ++ rowC ts ys y W
noncomputable def patC (ts : List Ti) (ys : List Pl) (W y x : Nat) : List Int := rowsC ts ys W y ++ rowC ts ys y x
theorem patC_zero (ts : List Ti) (ys : List Pl) (W : Nat) : patC ts ys W 0 0 = [] := rfl
theorem patC_next (ts : List Ti) (ys : List Pl) (W y x : Nat) : patC ts ys W y (x + 1) = patC ts ys W y x ++ [colAt ts ys ((x : Int) + 1) ((y : Int) + 1)] := by
  unfold patC; simp only [rowC]; rw [List.append_assoc]
theorem patC_row (ts : List Ti) (ys : List Pl) (W y : Nat) : patC ts ys W (y + 1) 0 = patC ts ys W y W := by
  unfold patC; simp only [rowsC, rowC, List.append_nil]
theorem rowC_len (ts : List Ti) (ys : List Pl) (y : Nat) : ∀ x, (rowC ts ys y x).length = x
  | 0 => rfl
  | x + 1 => by simp only [rowC, List.length_append, rowC_len ts ys y x]; rfl
theorem rowsC_len (ts : List Ti) (ys : List Pl) (W : Nat) : ∀ y, (rowsC ts ys W y).length = y * W
  | 0 => by simp [rowsC]
  | y + 1 => by simp only [rowsC, List.length_append, rowsC_len ts ys W y, rowC_len]; rw [Nat.succ_mul]
theorem patC_len {ts : List Ti} {ys : List Pl} {W y x : Nat} (hW : W ≤ 10) (hx : x ≤ W) (hy : y ≤ 10) : (patC ts ys W y x).length ≤ 110 := by
  unfold patC
  rw [List.length_append, rowsC_len, rowC_len]
  have : y * W ≤ 10 * 10 := Nat.mul_le_mul hy hW
  omega
open Classical in
noncomputable def patR (gs : List Gl) (ts : List Ti) (xs : List Pl) (t : Int) (ys : List Pl) (wd hg : Int) : (Int × Int × List Int) × Int :=
  if growB gs ts xs t ys = false then ((0, 0, []), 1) else if (inB wd 1 10 && inB hg 1 10) = false then ((0, 0, []), 2) else
    if ∀ y : Nat, (y : Int) < hg → ∀ x : Nat, (x : Int) < wd → 0 ≤ colAt ts ys ((x : Int) + 1) ((y : Int) + 1) then ((wd, hg, patC ts ys wd.toNat hg.toNat 0), 0) else ((0, 0, []), 9)
section
variable {gs : List Gl} {ts : List Ti} {xs ys : List Pl} {t wd hg : Int}
theorem patR_no (h : growB gs ts xs t ys = false) : (((0, 0, []), 1) : (Int × Int × List Int) × Int) = patR gs ts xs t ys wd hg := by unfold patR; rw [if_pos h]
theorem patR_range (h : growB gs ts xs t ys = true) (h2 : (inB wd 1 10 && inB hg 1 10) = false) : (((0, 0, []), 2) : (Int × Int × List Int) × Int) = patR gs ts xs t ys wd hg := by unfold patR; rw [if_neg (by rw [h]; decide), if_pos h2]
theorem patR_bad {W H : Nat} (h : growB gs ts xs t ys = true) (h1 : inB (W : Int) 1 10 = true) (h2 : inB (H : Int) 1 10 = true) {x y : Nat} (hx : x < W) (hy : y < H) (hc : colAt ts ys ((x : Int) + 1) ((y : Int) + 1) < 0) : (((0, 0, []), 9) : (Int × Int × List Int) × Int) = patR gs ts xs t ys (W : Int) (H : Int) := by
  unfold patR
  rw [if_neg (by rw [h]; decide), if_neg (by rw [h1, h2]; decide), if_neg (fun hh => by have := hh y (by omega) x (by omega); omega)]
theorem patR_yes {W H : Nat} (h : growB gs ts xs t ys = true) (h1 : inB (W : Int) 1 10 = true) (h2 : inB (H : Int) 1 10 = true) (hc : ∀ y : Nat, y < H → ∀ x : Nat, x < W → 0 ≤ colAt ts ys ((x : Int) + 1) ((y : Int) + 1)) : ((((W : Int), (H : Int), patC ts ys W H 0), 0) : (Int × Int × List Int) × Int) = patR gs ts xs t ys (W : Int) (H : Int) := by
  unfold patR
  rw [if_neg (by rw [h]; decide), if_neg (by rw [h1, h2]; decide), if_pos (fun y hy x hx => hc y (by omega) x (by omega))]
  simp
theorem patR_len (gs : List Gl) (ts : List Ti) (xs : List Pl) (t : Int) (ys : List Pl) (wd hg : Int) : (patR gs ts xs t ys wd hg).1.2.2.length ≤ 1073741824 := by
  unfold patR
  split
  · simp
  · split
    · simp
    · rename_i h2
      split
      · have h3 : (inB wd 1 10 && inB hg 1 10) = true := by simpa using h2
        rw [Bool.and_eq_true] at h3
        have ha := inB_true.1 h3.1
        have hb := inB_true.1 h3.2
        have := patC_len (ts := ts) (ys := ys) (W := wd.toNat) (y := hg.toNat) (x := 0) (by omega) (by omega) (by omega)
        simp only
        omega
      · simp
end
end Go.Proofs.YtjacdgdojemnkaaGreat
/- Walk: DecodePattern, the program. -/

namespace Go.Proofs.YtjacdgdojemnkaaGreat
open Go.RowKit Go.Shelf
set_option linter.unusedSimpArgs false
set_option linter.unusedVariables false
attribute [local go_sem] BelowBy.cell BelowBy.cell_drew stillUpon givesUpon BelowBy.cell_drew2 BelowBy.cell_drew3

set_option maxRecDepth 100000 in
set_option maxHeartbeats 4000000 in
theorem DecodePattern_any (G T A C : Option Addr) (n cg m ct q ca k cc : Nat) (gs : List Gl) (ts : List Ti) (xs ys : List Pl) (t wd hg : Int) (w : World) (h : SA w G n T m A q gs ts xs) (h2 : SA w G n T m C k gs ts ys) :
    Calls Tryz.prog 31 #[.agg #[.slice G n cg, .slice T m ct, .slice A q ca, .int .i64 t], .agg #[.slice C k cc], .int .i64 wd, .int .i64 hg] w (PatRes w (patR gs ts xs t ys wd hg)) := by
  obtain ⟨i0, hi, hz0, hz1, hz2⟩ := info_parts infoI
  
  have hS := Lib.hid h
  have hA := Lib.hid h2
  clear h h2
  cases hgr : growB gs ts xs t ys
  · have hgH := Lib.hid hgr
    clear hgr
    go_enter Tryz.func31, Tryz.ntmps31
    go_wp2_with (go_at_call 77; refine (growthCode_at (hS.out.below (by repeat (first | with_reducible exact bl_refl _ | with_reducible assumption | with_reducible refine bl_al ?_ _ | with_reducible refine bl_dr ?_ | with_reducible refine bl_tr ?_ (by assumption) | with_reducible refine bl_set ?_ ?_ _ | with_reducible exact Nat.le_refl _ | omega | (simp only [World.size_alloc, World.size_setCell, World.size_drew] at *; omega) | (dsimp only; omega) | (simp; done) | (simp; omega)))) (hA.out.below (by repeat (first | with_reducible exact bl_refl _ | with_reducible assumption | with_reducible refine bl_al ?_ _ | with_reducible refine bl_dr ?_ | with_reducible refine bl_tr ?_ (by assumption) | with_reducible refine bl_set ?_ ?_ _ | with_reducible exact Nat.le_refl _ | omega | (simp only [World.size_alloc, World.size_setCell, World.size_drew] at *; omega) | (dsimp only; omega) | (simp; done) | (simp; omega)))) hgH.out).mono ?_; simp only [codeB_false]; rintro e w1 ⟨rfl, hb1⟩; obtain ⟨chb1, fhb1, shb1, thb1⟩ := bcell hb1; (have b0 := shb1 w.heap.size (by go_simp)); (have b1 := shb1 (w.heap.size + 1) (by go_simp)); (have b2 := shb1 (w.heap.size + 2) (by go_simp)))
    refine bodyPost_ret (v := .tuple #[.agg #[.int .i64 0, .int .i64 0, .slice none 0 0], .int .i64 1]) (by simp only [results, Tryz.results31]; go_simp) rfl ?_
    exact PatRes.of (patR_no hgH.out) rfl (World.ownsRow_nil _ _ _ _) (by repeat (first | with_reducible exact bl_refl _ | with_reducible assumption | with_reducible refine bl_al ?_ _ | with_reducible refine bl_dr ?_ | with_reducible refine bl_tr ?_ (by assumption) | with_reducible refine bl_set ?_ ?_ _ | with_reducible exact Nat.le_refl _ | omega | (simp only [World.size_alloc, World.size_setCell, World.size_drew] at *; omega) | (dsimp only; omega) | (simp; done) | (simp; omega)))
  · have hgH := Lib.hid hgr
    have hV := valid_of (growB_true hgr).2
    clear hgr
    cases hw : inB wd 1 10
    · have hwH := Lib.hid hw
      have hr := Lib.hid (patR_range (hg := hg) hgH.out (show (inB wd 1 10 && inB hg 1 10) = false by rw [hw]; rfl))
      clear hw
      go_enter Tryz.func31, Tryz.ntmps31
      go_wp2_with (first
        | (go_at_call 77; refine (growthCode_at (hS.out.below (by repeat (first | with_reducible exact bl_refl _ | with_reducible assumption | with_reducible refine bl_al ?_ _ | with_reducible refine bl_dr ?_ | with_reducible refine bl_tr ?_ (by assumption) | with_reducible refine bl_set ?_ ?_ _ | with_reducible exact Nat.le_refl _ | omega | (simp only [World.size_alloc, World.size_setCell, World.size_drew] at *; omega) | (dsimp only; omega) | (simp; done) | (simp; omega)))) (hA.out.below (by repeat (first | with_reducible exact bl_refl _ | with_reducible assumption | with_reducible refine bl_al ?_ _ | with_reducible refine bl_dr ?_ | with_reducible refine bl_tr ?_ (by assumption) | with_reducible refine bl_set ?_ ?_ _ | with_reducible exact Nat.le_refl _ | omega | (simp only [World.size_alloc, World.size_setCell, World.size_drew] at *; omega) | (dsimp only; omega) | (simp; done) | (simp; omega)))) hgH.out).mono ?_; simp only [codeB_true]; rintro e w1 ⟨rfl, hb1⟩; obtain ⟨chb1, fhb1, shb1, thb1⟩ := bcell hb1; (have b0 := shb1 w.heap.size (by go_simp)); (have b1 := shb1 (w.heap.size + 1) (by go_simp)); (have b2 := shb1 (w.heap.size + 2) (by go_simp)))
        | (go_at_call 78; refine (within_any _ _ _ _).mono ?_; rw [hwH.out]; rintro e _ ⟨rfl, rfl⟩))
      refine bodyPost_ret (v := .tuple #[.agg #[.int .i64 0, .int .i64 0, .slice none 0 0], .int .i64 2]) (by simp only [results, Tryz.results31]; go_simp) rfl ?_
      exact PatRes.of hr.out rfl (World.ownsRow_nil _ _ _ _) (by repeat (first | with_reducible exact bl_refl _ | with_reducible assumption | with_reducible refine bl_al ?_ _ | with_reducible refine bl_dr ?_ | with_reducible refine bl_tr ?_ (by assumption) | with_reducible refine bl_set ?_ ?_ _ | with_reducible exact Nat.le_refl _ | omega | (simp only [World.size_alloc, World.size_setCell, World.size_drew] at *; omega) | (dsimp only; omega) | (simp; done) | (simp; omega)))
    · have hwH := Lib.hid hw
      cases hd : inB hg 1 10
      · have hdH := Lib.hid hd
        have hr := Lib.hid (patR_range hgH.out (show (inB wd 1 10 && inB hg 1 10) = false by rw [hw, hd]; rfl))
        clear hd hw
        go_enter Tryz.func31, Tryz.ntmps31
        go_wp2_with (first
          | (go_at_call 77; refine (growthCode_at (hS.out.below (by repeat (first | with_reducible exact bl_refl _ | with_reducible assumption | with_reducible refine bl_al ?_ _ | with_reducible refine bl_dr ?_ | with_reducible refine bl_tr ?_ (by assumption) | with_reducible refine bl_set ?_ ?_ _ | with_reducible exact Nat.le_refl _ | omega | (simp only [World.size_alloc, World.size_setCell, World.size_drew] at *; omega) | (dsimp only; omega) | (simp; done) | (simp; omega)))) (hA.out.below (by repeat (first | with_reducible exact bl_refl _ | with_reducible assumption | with_reducible refine bl_al ?_ _ | with_reducible refine bl_dr ?_ | with_reducible refine bl_tr ?_ (by assumption) | with_reducible refine bl_set ?_ ?_ _ | with_reducible exact Nat.le_refl _ | omega | (simp only [World.size_alloc, World.size_setCell, World.size_drew] at *; omega) | (dsimp only; omega) | (simp; done) | (simp; omega)))) hgH.out).mono ?_; simp only [codeB_true]; rintro e w1 ⟨rfl, hb1⟩; obtain ⟨chb1, fhb1, shb1, thb1⟩ := bcell hb1; (have b0 := shb1 w.heap.size (by go_simp)); (have b1 := shb1 (w.heap.size + 1) (by go_simp)); (have b2 := shb1 (w.heap.size + 2) (by go_simp)))
          | (go_at_call 78; refine (within_any _ _ _ _).mono ?_; (first | rw [hwH.out] | rw [hdH.out]); rintro e _ ⟨rfl, rfl⟩))
        refine bodyPost_ret (v := .tuple #[.agg #[.int .i64 0, .int .i64 0, .slice none 0 0], .int .i64 2]) (by simp only [results, Tryz.results31]; go_simp) rfl ?_
        exact PatRes.of hr.out rfl (World.ownsRow_nil _ _ _ _) (by repeat (first | with_reducible exact bl_refl _ | with_reducible assumption | with_reducible refine bl_al ?_ _ | with_reducible refine bl_dr ?_ | with_reducible refine bl_tr ?_ (by assumption) | with_reducible refine bl_set ?_ ?_ _ | with_reducible exact Nat.le_refl _ | omega | (simp only [World.size_alloc, World.size_setCell, World.size_drew] at *; omega) | (dsimp only; omega) | (simp; done) | (simp; omega)))
      · have hdH := Lib.hid hd
        obtain ⟨W, rfl, hW1, hW8⟩ := inB_natP hw (by decide)
        obtain ⟨H, rfl, hH1, hH8⟩ := inB_natP hd (by decide)
        have hr := Lib.hid (patR_yes hgH.out hw hd)
        have hbad := Lib.hid (fun (x y : Nat) => patR_bad hgH.out hw hd (x := x) (y := y))
        clear hd hw
        go_enter Tryz.func31, Tryz.ntmps31
        go_wp2_with (first
          | (go_at_call 77; refine (growthCode_at (hS.out.below (by repeat (first | with_reducible exact bl_refl _ | with_reducible assumption | with_reducible refine bl_al ?_ _ | with_reducible refine bl_dr ?_ | with_reducible refine bl_tr ?_ (by assumption) | with_reducible refine bl_set ?_ ?_ _ | with_reducible exact Nat.le_refl _ | omega | (simp only [World.size_alloc, World.size_setCell, World.size_drew] at *; omega) | (dsimp only; omega) | (simp; done) | (simp; omega)))) (hA.out.below (by repeat (first | with_reducible exact bl_refl _ | with_reducible assumption | with_reducible refine bl_al ?_ _ | with_reducible refine bl_dr ?_ | with_reducible refine bl_tr ?_ (by assumption) | with_reducible refine bl_set ?_ ?_ _ | with_reducible exact Nat.le_refl _ | omega | (simp only [World.size_alloc, World.size_setCell, World.size_drew] at *; omega) | (dsimp only; omega) | (simp; done) | (simp; omega)))) hgH.out).mono ?_; simp only [codeB_true]; rintro e w1 ⟨rfl, hb1⟩; obtain ⟨chb1, fhb1, shb1, thb1⟩ := bcell hb1; (have b0 := shb1 w.heap.size (by go_simp)); (have b1 := shb1 (w.heap.size + 1) (by go_simp)); (have b2 := shb1 (w.heap.size + 2) (by go_simp)))
          | (go_at_call 78; refine (within_any _ _ _ _).mono ?_; (first | rw [hwH.out] | rw [hdH.out]); rintro e _ ⟨rfl, rfl⟩))
        have hB1 := Lib.hid (show Below w.heap.size w w1 by repeat (first | with_reducible exact bl_refl _ | with_reducible assumption | with_reducible refine bl_al ?_ _ | with_reducible refine bl_dr ?_ | with_reducible refine bl_tr ?_ (by assumption) | with_reducible refine bl_set ?_ ?_ _ | with_reducible exact Nat.le_refl _ | omega | (simp only [World.size_alloc, World.size_setCell, World.size_drew] at *; omega) | (dsimp only; omega) | (simp; done) | (simp; omega)))
        have y1 : w1.cell? ⟨w.heap.size, 1, none⟩ = some (.slice T m ct) := (hb1.cell (p := ⟨w.heap.size, 1, none⟩) (by go_simp)).trans (by go_simp)
        have y2 : w1.cell? ⟨w.heap.size + 1, 0, none⟩ = some (.slice C k cc) := (hb1.cell (p := ⟨w.heap.size + 1, 0, none⟩) (by go_simp)).trans (by go_simp)
        have r0 := (hb1.cell (p := ⟨w.heap.size + 2, 0, none⟩) (by go_simp)).trans (show _ = some (Value.int .i64 0) by go_simp)
        have r1 := (hb1.cell (p := ⟨w.heap.size + 2, 1, none⟩) (by go_simp)).trans (show _ = some (Value.int .i64 0) by go_simp)
        have r2 := (hb1.cell (p := ⟨w.heap.size + 2, 2, none⟩) (by go_simp)).trans (show _ = some (Value.slice none 0 0) by go_simp)
        have g0 := (hb1.frozen (p := ⟨w.heap.size + 2, 0, none⟩) (by go_simp)).trans (show _ = false by go_simp)
        have g1 := (hb1.frozen (p := ⟨w.heap.size + 2, 1, none⟩) (by go_simp)).trans (show _ = false by go_simp)
        have g2 := (hb1.frozen (p := ⟨w.heap.size + 2, 2, none⟩) (by go_simp)).trans (show _ = false by go_simp)
        have hQ := Lib.hid (show PatQ w1 (w.heap.size + 2) 0 0 (.slice none 0 0) from ⟨b2, r0, r1, r2, g2⟩)
        have hG := Lib.hid (And.intro g0 g1)
        clear r0 r1 r2 g0 g1 g2
        have hsz1 := hB1.out.size
        clear chb1 fhb1 shb1 thb1 hb1
        go_loopg [34] H (fun gk i wr => ∃ (y : Nat) (A2 : Option Addr) (c2 : Nat), y + gk = H ∧ i = .int .i64 (y : Int) ∧ Hid (∀ y' : Nat, y' < y → ∀ x : Nat, x < W → 0 ≤ colAt ts ys ((x : Int) + 1) ((y' : Int) + 1)) ∧ Hid (PatQ wr w1.heap.size (W : Int) (H : Int) (.slice A2 (patC ts ys W y 0).length c2)) ∧ Hid (wr.ownsRow (w1.heap.size + 1) 2 1 (.slice A2 (patC ts ys W y 0).length c2) (patC ts ys W y 0).length ((patC ts ys W y 0).map (Value.int .i64))) ∧ Hid (Below w1.heap.size w1 wr))
        case atStart => exact ⟨0, none, 0, by omega, rfl, Lib.hid (fun y' hy' => by omega), Lib.hid (PatQ.new _ _ _ _ _), Lib.hid (World.ownsRow_nil _ _ _ _), Lib.hid (bl_al (bl_refl _) _)⟩
        case round =>
          obtain ⟨y, A2, c2, hy, rfl, hok, hpq, hrow, hbw⟩ := hrel
          by_cases hyH : y < H
          · have hyHI : (y : Int) < (H : Int) := by omega
            go_wp2
            obtain ⟨wq, hwq⟩ : ∃ wq : World, wq = wr := ⟨_, rfl⟩
            go_loopg [38] W (fun gk i wr => ∃ (x : Nat) (A2 : Option Addr) (c2 : Nat), x + gk = W ∧ i = .int .i64 (x : Int) ∧ Hid (∀ x' : Nat, x' < x → 0 ≤ colAt ts ys ((x' : Int) + 1) ((y : Int) + 1)) ∧ Hid (PatQ wr w1.heap.size (W : Int) (H : Int) (.slice A2 (patC ts ys W y x).length c2)) ∧ Hid (wr.ownsRow (w1.heap.size + 1) 2 1 (.slice A2 (patC ts ys W y x).length c2) (patC ts ys W y x).length ((patC ts ys W y x).map (Value.int .i64))) ∧ Hid (Below w1.heap.size w1 wr))
            case atStart => exact ⟨0, A2, c2, by omega, rfl, Lib.hid (fun y' hy' => by omega), hpq, hrow, hbw⟩
            case round =>
              clear hpq hrow hbw hwq A2 c2
              obtain ⟨x, A2, c2, hx, rfl, hokx, hpq, hrow, hbw⟩ := hrel
              have hszr := hbw.out.size
              have z1 := (hbw.out.cell (p := ⟨w.heap.size, 1, none⟩) b0).trans y1
              have z2 := (hbw.out.cell (p := ⟨w.heap.size + 1, 0, none⟩) b1).trans y2
              have e0 : w.heap.size < wr.heap.size := by omega
              have e1 : w.heap.size + 1 < wr.heap.size := by omega
              have e2 := hpq.out.lt
              have p2 := hpq.out.c2
              have pf := hpq.out.fr
              by_cases hxW : x < W
              · have hA1 := Lib.hid (hA.out.below (hB1.out.trans (hbw.out.mono hsz1)))
                have hpl := patC_len (ts := ts) (ys := ys) (W := W) (y := y) (x := x) (by omega) (by omega) (by omega)
                obtain ⟨L, hL⟩ : ∃ L, patC ts ys W y x = L := ⟨_, rfl⟩
                have hLH := Lib.hid hL
                rw [hL] at hpq hrow p2 hpl
                obtain ⟨N, hN⟩ : ∃ N, L.length = N := ⟨_, rfl⟩
                have hNH := Lib.hid hN
                rw [hN] at hpq hrow p2 hpl
                clear hL hN
                rcases atI_cases hV ((x : Int) + 1) ((y : Int) + 1) with ⟨h1, hat⟩ | ⟨kk, tt, e, h1, he, ht, htl, hat⟩
                · have hatH := Lib.hid hat
                  have hres := Lib.hid (hbad.out x y hxW hyH (by rw [colAt_none hat]; decide))
                  clear h1 hat
                  go_wp2_with (go_at_call 70; refine (at_at hA1.out.A hV hatH.out).mono ?_; rintro e w2 ⟨rfl, hb2⟩; have hb2H := Lib.hid hb2; have hq2 := (hQ.out.below hbw.out b2).below hb2 (by omega); have q0 := hq2.c0; have q1 := hq2.c1; have q2 := hq2.c2; have q3 := hq2.fr; have q4 := (hb2.frozen (p := ⟨w.heap.size + 2, 0, none⟩) (show w.heap.size + 2 < wr.heap.size by omega)).trans ((hbw.out.frozen (p := ⟨w.heap.size + 2, 0, none⟩) b2).trans hG.out.1); have q5 := (hb2.frozen (p := ⟨w.heap.size + 2, 1, none⟩) (show w.heap.size + 2 < wr.heap.size by omega)).trans ((hbw.out.frozen (p := ⟨w.heap.size + 2, 1, none⟩) b2).trans hG.out.2); have q6 := hq2.lt; have s9 := hb2.size; have hB2 := Lib.hid (hB1.out.trans ((hbw.out.trans (hb2.mono hszr)).mono hsz1)); clear hb2 hq2)
                  refine bodyPost_ret (v := .tuple #[.agg #[.int .i64 0, .int .i64 0, .slice none 0 0], .int .i64 9]) (by simp only [results, Tryz.results31]; go_simp) rfl ?_
                  exact PatRes.of hres.out rfl (World.ownsRow_nil _ _ _ _) (by have h9 := hB2.out; repeat (first | with_reducible exact bl_refl _ | with_reducible assumption | with_reducible refine bl_al ?_ _ | with_reducible refine bl_dr ?_ | with_reducible refine bl_tr ?_ (by assumption) | with_reducible refine bl_set ?_ ?_ _ | with_reducible exact Nat.le_refl _ | omega | (simp only [World.size_alloc, World.size_setCell, World.size_drew] at *; omega) | (dsimp only; omega) | (simp; done) | (simp; omega)))
                · have hatH := Lib.hid hat
                  clear h1 hat he ht e
                  have htm : tt < m := by have := hA1.out.T.len; omega
                  go_wp2_with fail
                  refine (at_at hA1.out.A hV hatH.out).mono ?_
                  rintro e' w2 ⟨rfl, hb2⟩
                  have x1 := (hb2.cell (p := ⟨w.heap.size, 1, none⟩) e0).trans z1
                  have f0 : w.heap.size < w2.heap.size := Nat.lt_of_lt_of_le e0 hb2.size
                  have hT2 := hA1.out.T.below RTi.stable hb2
                  obtain ⟨e, he⟩ := hT2.get htm
                  obtain ⟨bt, ot, hTe, hbt, hct⟩ := hT2.ptr (by omega)
                  subst hTe
                  obtain ⟨c0, _⟩ := hct tt e he
                  have hsz := (hA1.out.tn tt e he).1
                  have hcs := colAt_some hatH.out he
                  have ht0 : (0 : Int) ≤ (tt : Int) := by omega
                  obtain ⟨s, hs⟩ : ∃ s, e.name = s := ⟨_, rfl⟩
                  rw [hs] at c0 hsz hcs
                  obtain ⟨v, hv⟩ : ∃ v, colI s = v := ⟨_, rfl⟩
                  have hvr := colI_range s
                  rw [hv] at hvr hcs
                  have hvH := Lib.hid hv
                  have hcsH := Lib.hid hcs
                  have hs2 := hb2.size
                  have hB2 := Lib.hid (hbw.out.trans (hb2.mono hszr))
                  have hpq2 := Lib.hid (hpq.out.below hb2 hpq.out.lt)
                  have hrow2 := Lib.hid (ownsRow_below hrow.out hb2)
                  have lbt2 : bt < w2.heap.size := hbt
                  clear hct hT2 he hs hv hb2 p2 pf hcs
                  rcases hvr with rfl | hv0
                  · have hres := Lib.hid (hbad.out x y hxW hyH (by rw [hcsH.out]; decide))
                    go_wp2_with (go_at_call 79; refine (colorOf_any s _ hsz hvH.out).mono ?_; rintro e w3 ⟨rfl, hb3⟩; have hq2 := (hQ.out.below hB2.out b2).below hb3 (show w.heap.size + 2 < w2.heap.size by omega); have q0 := hq2.c0; have q1 := hq2.c1; have q2 := hq2.c2; have q3 := hq2.fr; have q4 := (hb3.frozen (p := ⟨w.heap.size + 2, 0, none⟩) (show w.heap.size + 2 < w2.heap.size by omega)).trans ((hB2.out.frozen (p := ⟨w.heap.size + 2, 0, none⟩) b2).trans hG.out.1); have q5 := (hb3.frozen (p := ⟨w.heap.size + 2, 1, none⟩) (show w.heap.size + 2 < w2.heap.size by omega)).trans ((hB2.out.frozen (p := ⟨w.heap.size + 2, 1, none⟩) b2).trans hG.out.2); have q6 := hq2.lt; have s9 := hb3.size; have hB3 := Lib.hid (hB1.out.trans ((hB2.out.trans (hb3.mono hB2.out.size)).mono hsz1)); clear hb3 hq2)
                    refine bodyPost_ret (v := .tuple #[.agg #[.int .i64 0, .int .i64 0, .slice none 0 0], .int .i64 9]) (by simp only [results, Tryz.results31]; go_simp) rfl ?_
                    exact PatRes.of hres.out rfl (World.ownsRow_nil _ _ _ _) (by have h9 := hB3.out; repeat (first | with_reducible exact bl_refl _ | with_reducible assumption | with_reducible refine bl_al ?_ _ | with_reducible refine bl_dr ?_ | with_reducible refine bl_tr ?_ (by assumption) | with_reducible refine bl_set ?_ ?_ _ | with_reducible exact Nat.le_refl _ | omega | (simp only [World.size_alloc, World.size_setCell, World.size_drew] at *; omega) | (dsimp only; omega) | (simp; done) | (simp; omega)))
                  · have hvn : ¬ v < 0 := by omega
                    go_wp2_with (go_at_call 79; refine (colorOf_any s _ hsz hvH.out).mono ?_; rintro e w3 ⟨rfl, hb3⟩; have x3 := (hb3.cell (p := ⟨w.heap.size, 1, none⟩) f0).trans x1; have d0 := (hb3.cell (p := ⟨bt, _, none⟩) lbt2).trans c0; have hpq3 := Lib.hid (hpq2.out.below hb3 hpq2.out.lt); have p2 := hpq3.out.c2; have pf := hpq3.out.fr; have p9 := hpq3.out.lt; have hrow3 := Lib.hid (ownsRow_below hrow2.out hb3); have hB3 := Lib.hid (hB2.out.trans (hb3.mono hB2.out.size)); have s3 := hb3.size; have f3 : w.heap.size < w3.heap.size := Nat.lt_of_lt_of_le f0 s3; have lbt3 : bt < w3.heap.size := Nat.lt_of_lt_of_le lbt2 s3; clear hb3)
                    clear x1 c0
                    
                    refine wp_region_ord [(0, .q), (1, .q), (2, .q), (3, .q), (4, .q), (5, .q), (6, .q), (7, .q), (8, .q), (9, .g), (10, .g), (11, .b), (12, .q), (13, .b)] (by kernel_rfl) (by kernel_rfl) ?_
                    simp only [pick, List.filterMap_cons, List.filterMap_nil, List.getElem?_toArray, List.getElem?_cons_zero, List.getElem?_cons_succ, Option.map_some]
                    repeat (first
                      | ((with_reducible refine wpD_p (fun K hK => ?_)); go_simp; refine hK _ ?_; clear hK K)
                      | ((with_reducible refine wpD_q (fun K hK => ?_)); go_simp; (first | refine hK _ ?_ | (go_bits; refine hK _ ?_) | (go_bits; go_simp; refine hK _ ?_)); clear hK K)
                      | ((with_reducible refine wpD_g (fun K hK => ?_)); go_simp; refine hK _ _ ?_; clear hK K)
                      | ((with_reducible refine wpD_g (fun K hK => ?_)); go_simp; refine ⟨Grew.of_alloc _, hK _ _ ?_⟩; clear hK K)
                      | ((with_reducible refine wpD_g (fun K hK => ?_)); go_simp; go_at_call 79; refine (colorOf_any s _ hsz hvH.out).mono ?_; rintro e w4 ⟨rfl, hb4⟩; refine ⟨_, rfl, hb4, hK _ _ ?_⟩; clear hK K; obtain ⟨chb4, fhb4, shb4, thb4⟩ := bcell hb4; (try have bhb40 := shb4 (w1.heap.size) (by go_simp)); (try have bhb41 := shb4 (w.heap.size) (by go_simp)); (try have bhb42 := shb4 (bt) (by go_simp))))
                    
                    have hb5 : Below w3.heap.size w3 (w4.alloc (Obj.cells #[.int .i64 v] 2)) := by repeat (first | with_reducible exact bl_refl _ | with_reducible assumption | with_reducible refine bl_al ?_ _ | with_reducible refine bl_dr ?_ | with_reducible refine bl_tr ?_ (by assumption) | with_reducible refine bl_set ?_ ?_ _ | with_reducible exact Nat.le_refl _ | omega | (simp only [World.size_alloc, World.size_setCell, World.size_drew] at *; omega) | (dsimp only; omega) | (simp; done) | (simp; omega))
                    have hb5H := Lib.hid hb5
                    have s5 := hb5.size
                    have hrow5 := Lib.hid (ownsRow_below hrow3.out hb5)
                    clear hb5
                    refine wpD_append rfl _ _ 64 rfl (w1.heap.size + 1) 2 i0 (.int .i64 0) 1 8 Tryz.underlying64 hi hz0 hz1 hz2 rfl (by decide) (.slice A2 N c2) N (L.map (Value.int .i64)) (by go_simp) hrow5.out ⟨w4.heap.size, 0, none⟩ 1 1 [.int .i64 v] (by go_simp) rfl ?hnews (fun x hx => by simp at hx; subst hx; rfl) (by unfold maxLen; omega) (by omega) (by simp; omega) ?_
                    case hnews =>
                      have := cell_one_new w4 (.int .i64 v) 2
                      simpa using this
                    intro v5 w5 hown hgrow
                    obtain ⟨A5, c5, rfl⟩ := ownsRow_form hown
                    have hownH := Lib.hid hown
                    have hb6 : Below (w1.heap.size + 1) w3 w5 := (hb5H.out.mono (by omega)).grown hgrow (by omega) (fun g e => (hrow5.out.lt g e).1)
                    have hpq5 := hpq3.out.below hb6 (by omega)
                    have hpq5H := Lib.hid hpq5
                    have m2 := hpq5.c2
                    have mf := hpq5.fr
                    have m9 := hpq5.lt
                    have hB6 := Lib.hid (hB3.out.trans (hb6.mono (Nat.le_succ _)))
                    have hs := Lib.hid (show patC ts ys W y (x + 1) = L ++ [v] by rw [patC_next, hLH.out, hcsH.out])
                    clear hown hgrow hb6 hpq5
                    repeat (first | ((with_reducible refine wpD_p (fun K hK => ?_)); go_simp; refine hK _ ?_; clear hK K) | ((with_reducible refine wpD_q (fun K hK => ?_)); go_simp; (first | refine hK _ ?_ | (go_bits; refine hK _ ?_) | (go_bits; go_simp; refine hK _ ?_)); clear hK K))
                    with_reducible refine wpD_b (fun K hK => ?_)
                    go_simp
                    refine hK _ _ ?_
                    clear hK K
                    with_reducible refine wpD_nil ?_
                    go_wp2
                    go_roundg (W - (x + 1))
                    case measure => omega
                    case rel => exact ⟨x + 1, A5, c5, by omega, by go_num, Lib.hid (fun x' hx' => by
                        rcases Nat.lt_succ_iff_lt_or_eq.1 hx' with h | rfl
                        · exact hokx.out x' h
                        · rw [hcsH.out]; exact hv0), Lib.hid (by rw [hs.out, List.length_append, hNH.out]; exact hpq5H.out.set), Lib.hid (by rw [hs.out, List.length_append, List.map_append, hNH.out]; exact ownsRow_setCell_below hownH.out (Nat.lt_succ_self _) _), Lib.hid (hB6.out.setCell (p := ⟨w1.heap.size, 2, none⟩) (Nat.le_refl _) _)⟩
              · obtain rfl : x = W := by omega
                go_wp2
                go_roundg (H - (y + 1))
                case measure => omega
                case rel => exact ⟨y + 1, A2, c2, by omega, by go_num, Lib.hid (fun y' hy' => by
                    rcases Nat.lt_succ_iff_lt_or_eq.1 hy' with h | rfl
                    · exact hok.out y' h
                    · exact hokx.out), Lib.hid (by rw [patC_row]; exact hpq.out), Lib.hid (by rw [patC_row]; exact hrow.out), hbw⟩
          · obtain rfl : y = H := by omega
            have hres := Lib.hid (hr.out (fun y' hy' x hx => hok.out y' hy' x hx))
            have q0 := (hQ.out.below hbw.out b2).c0
            have q1 := (hQ.out.below hbw.out b2).c1
            have q2 := (hQ.out.below hbw.out b2).c2
            have q3 := (hQ.out.below hbw.out b2).fr
            have q4 := (hbw.out.frozen (p := ⟨w.heap.size + 2, 0, none⟩) b2).trans hG.out.1
            have q5 := (hbw.out.frozen (p := ⟨w.heap.size + 2, 1, none⟩) b2).trans hG.out.2
            have q6 := (hQ.out.below hbw.out b2).lt
            have p0 := hpq.out.c0
            have p1 := hpq.out.c1
            have p2 := hpq.out.c2
            have p9 := hpq.out.lt
            have hB3 := Lib.hid (hB1.out.trans (hbw.out.mono hsz1))
            go_wp2
            refine bodyPost_ret (v := .tuple #[.agg #[.int .i64 (W : Int), .int .i64 (y : Int), .slice A2 (patC ts ys W y 0).length c2], .int .i64 0]) (by simp only [results, Tryz.results31]; go_simp) rfl ?_
            exact PatRes.of hres.out rfl (ownsRow_base (ownsRow_setCell_below (ownsRow_setCell_below (ownsRow_setCell_below hrow.out (by simp; omega) _) (by simp; omega) _) (by simp; omega) _) (by omega)) (by have h9 := hB3.out; repeat (first | with_reducible exact bl_refl _ | with_reducible assumption | with_reducible refine bl_al ?_ _ | with_reducible refine bl_dr ?_ | with_reducible refine bl_tr ?_ (by assumption) | with_reducible refine bl_set ?_ ?_ _ | with_reducible exact Nat.le_refl _ | omega | (simp only [World.size_alloc, World.size_setCell, World.size_drew] at *; omega) | (dsimp only; omega) | (simp; done) | (simp; omega)))
end Go.Proofs.YtjacdgdojemnkaaGreat
/- Walk: DecodePattern, the reference. -/

namespace Go.Proofs.YtjacdgdojemnkaaGreat
open Go.RowKit Go.Shelf
set_option linter.unusedSimpArgs false
set_option linter.unusedVariables false
attribute [local go_sem] BelowBy.cell BelowBy.cell_drew stillUpon givesUpon BelowBy.cell_drew2 BelowBy.cell_drew3
attribute [local go_sem] baL_0 baL_1 baL_2

set_option maxRecDepth 100000 in
set_option maxHeartbeats 4000000 in
theorem sDecodePattern_any (G T A C : Option Addr) (n cg m ct q ca k cc : Nat) (gs : List Gl) (ts : List Ti) (xs ys : List Pl) (t wd hg : Int) (w : World) (h : SA w G n T m A q gs ts xs) (h2 : SA w G n T m C k gs ts ys) :
    Calls Tryz.prog 30 #[.agg #[.slice G n cg, .slice T m ct, .slice A q ca, .int .i64 t], .agg #[.slice C k cc], .int .i64 wd, .int .i64 hg] w (PatRes w (patR gs ts xs t ys wd hg)) := by
  obtain ⟨i0, hi, hz0, hz1, hz2⟩ := info_parts infoI
  
  have hS := Lib.hid (show SysAt (((w.alloc (Obj.cells #[.slice G n cg, .slice T m ct, .slice A q ca, .int .i64 t] 45)).alloc (Obj.cells #[.slice C k cc] 37)).alloc (Obj.cells #[.int .i64 0, .int .i64 0, .slice none 0 0] 66)) w.heap.size 0 gs ts xs t from (h.sysbox cg ct ca t).below (bl_al (bl_al (bl_refl _) _) _))
  have hA := Lib.hid (show AsmAt (((w.alloc (Obj.cells #[.slice G n cg, .slice T m ct, .slice A q ca, .int .i64 t] 45)).alloc (Obj.cells #[.slice C k cc] 37)).alloc (Obj.cells #[.int .i64 0, .int .i64 0, .slice none 0 0] 66)) (w.heap.size + 1) 0 ys from ⟨by simp, C, k, cc, by go_simp, h2.A.below RPl.stable (by repeat (first | with_reducible exact bl_refl _ | with_reducible assumption | with_reducible refine bl_al ?_ _ | with_reducible refine bl_dr ?_ | with_reducible refine bl_tr ?_ (by assumption) | with_reducible refine bl_set ?_ ?_ _ | with_reducible exact Nat.le_refl _ | omega | (simp only [World.size_alloc, World.size_setCell, World.size_drew] at *; omega) | (dsimp only; omega) | (simp; done) | (simp; omega)))⟩)
  have hk : ys.length ≤ 1073741824 := by rw [h2.A.len]; exact h2.q
  have hSA := Lib.hid h2
  have hlm := h.T.len
  clear h h2
  cases hgr : growB gs ts xs t ys
  · have hgH := Lib.hid hgr
    clear hgr
    go_enter Tryz.func30, Tryz.ntmps30
    go_wp2_with (go_at_call 74; refine (l08Asked_at hS.out hA.out hk hgH.out).mono ?_; simp only [codeB_false]; rintro e w1 ⟨rfl, hb1⟩; obtain ⟨chb1, fhb1, shb1, thb1⟩ := bcell hb1; (have b0 := shb1 w.heap.size (by go_simp)); (have b1 := shb1 (w.heap.size + 1) (by go_simp)); (have b2 := shb1 (w.heap.size + 2) (by go_simp)))
    refine bodyPost_ret (v := .tuple #[.agg #[.int .i64 0, .int .i64 0, .slice none 0 0], .int .i64 1]) (by simp only [results, Tryz.results30]; go_simp) rfl ?_
    exact PatRes.of (patR_no hgH.out) rfl (World.ownsRow_nil _ _ _ _) (by repeat (first | with_reducible exact bl_refl _ | with_reducible assumption | with_reducible refine bl_al ?_ _ | with_reducible refine bl_dr ?_ | with_reducible refine bl_tr ?_ (by assumption) | with_reducible refine bl_set ?_ ?_ _ | with_reducible exact Nat.le_refl _ | omega | (simp only [World.size_alloc, World.size_setCell, World.size_drew] at *; omega) | (dsimp only; omega) | (simp; done) | (simp; omega)))
  · have hgH := Lib.hid hgr
    have hV := valid_of (growB_true hgr).2
    clear hgr
    cases hw : inB wd 1 10
    · have hwH := Lib.hid hw
      have hr := Lib.hid (patR_range (hg := hg) hgH.out (show (inB wd 1 10 && inB hg 1 10) = false by rw [hw]; rfl))
      clear hw
      go_enter Tryz.func30, Tryz.ntmps30
      go_wp2_with (first
        | (go_at_call 74; refine (l08Asked_at hS.out hA.out hk hgH.out).mono ?_; simp only [codeB_true]; rintro e w1 ⟨rfl, hb1⟩; obtain ⟨chb1, fhb1, shb1, thb1⟩ := bcell hb1; (have b0 := shb1 w.heap.size (by go_simp)); (have b1 := shb1 (w.heap.size + 1) (by go_simp)); (have b2 := shb1 (w.heap.size + 2) (by go_simp)))
        | (go_at_call 75; refine (l00In_any _ _ _ _).mono ?_; rw [hwH.out]; rintro e _ ⟨rfl, rfl⟩))
      refine bodyPost_ret (v := .tuple #[.agg #[.int .i64 0, .int .i64 0, .slice none 0 0], .int .i64 2]) (by simp only [results, Tryz.results30]; go_simp) rfl ?_
      exact PatRes.of hr.out rfl (World.ownsRow_nil _ _ _ _) (by repeat (first | with_reducible exact bl_refl _ | with_reducible assumption | with_reducible refine bl_al ?_ _ | with_reducible refine bl_dr ?_ | with_reducible refine bl_tr ?_ (by assumption) | with_reducible refine bl_set ?_ ?_ _ | with_reducible exact Nat.le_refl _ | omega | (simp only [World.size_alloc, World.size_setCell, World.size_drew] at *; omega) | (dsimp only; omega) | (simp; done) | (simp; omega)))
    · have hwH := Lib.hid hw
      cases hd : inB hg 1 10
      · have hdH := Lib.hid hd
        have hr := Lib.hid (patR_range hgH.out (show (inB wd 1 10 && inB hg 1 10) = false by rw [hw, hd]; rfl))
        clear hd hw
        go_enter Tryz.func30, Tryz.ntmps30
        go_wp2_with (first
          | (go_at_call 74; refine (l08Asked_at hS.out hA.out hk hgH.out).mono ?_; simp only [codeB_true]; rintro e w1 ⟨rfl, hb1⟩; obtain ⟨chb1, fhb1, shb1, thb1⟩ := bcell hb1; (have b0 := shb1 w.heap.size (by go_simp)); (have b1 := shb1 (w.heap.size + 1) (by go_simp)); (have b2 := shb1 (w.heap.size + 2) (by go_simp)))
          | (go_at_call 75; refine (l00In_any _ _ _ _).mono ?_; (first | rw [hwH.out] | rw [hdH.out]); rintro e _ ⟨rfl, rfl⟩))
        refine bodyPost_ret (v := .tuple #[.agg #[.int .i64 0, .int .i64 0, .slice none 0 0], .int .i64 2]) (by simp only [results, Tryz.results30]; go_simp) rfl ?_
        exact PatRes.of hr.out rfl (World.ownsRow_nil _ _ _ _) (by repeat (first | with_reducible exact bl_refl _ | with_reducible assumption | with_reducible refine bl_al ?_ _ | with_reducible refine bl_dr ?_ | with_reducible refine bl_tr ?_ (by assumption) | with_reducible refine bl_set ?_ ?_ _ | with_reducible exact Nat.le_refl _ | omega | (simp only [World.size_alloc, World.size_setCell, World.size_drew] at *; omega) | (dsimp only; omega) | (simp; done) | (simp; omega)))
      · have hdH := Lib.hid hd
        obtain ⟨W, rfl, hW1, hW8⟩ := inB_natP hw (by decide)
        obtain ⟨H, rfl, hH1, hH8⟩ := inB_natP hd (by decide)
        have hr := Lib.hid (patR_yes hgH.out hw hd)
        have hbad := Lib.hid (fun (x y : Nat) => patR_bad hgH.out hw hd (x := x) (y := y))
        clear hd hw
        go_enter Tryz.func30, Tryz.ntmps30
        go_wp2_with (first
          | (go_at_call 74; refine (l08Asked_at hS.out hA.out hk hgH.out).mono ?_; simp only [codeB_true]; rintro e w1 ⟨rfl, hb1⟩; obtain ⟨chb1, fhb1, shb1, thb1⟩ := bcell hb1; (have b0 := shb1 w.heap.size (by go_simp)); (have b1 := shb1 (w.heap.size + 1) (by go_simp)); (have b2 := shb1 (w.heap.size + 2) (by go_simp)))
          | (go_at_call 75; refine (l00In_any _ _ _ _).mono ?_; (first | rw [hwH.out] | rw [hdH.out]); rintro e _ ⟨rfl, rfl⟩))
        have hB1 := Lib.hid (show Below w.heap.size w w1 by repeat (first | with_reducible exact bl_refl _ | with_reducible assumption | with_reducible refine bl_al ?_ _ | with_reducible refine bl_dr ?_ | with_reducible refine bl_tr ?_ (by assumption) | with_reducible refine bl_set ?_ ?_ _ | with_reducible exact Nat.le_refl _ | omega | (simp only [World.size_alloc, World.size_setCell, World.size_drew] at *; omega) | (dsimp only; omega) | (simp; done) | (simp; omega)))
        have hA0 := Lib.hid (hA.out.below hb1)
        have y1 : w1.cell? ⟨w.heap.size, 1, none⟩ = some (.slice T m ct) := (hb1.cell (p := ⟨w.heap.size, 1, none⟩) (by go_simp)).trans (by go_simp)
        have y2 : w1.cell? ⟨w.heap.size + 1, 0, none⟩ = some (.slice C k cc) := (hb1.cell (p := ⟨w.heap.size + 1, 0, none⟩) (by go_simp)).trans (by go_simp)
        have r0 := (hb1.cell (p := ⟨w.heap.size + 2, 0, none⟩) (by go_simp)).trans (show _ = some (Value.int .i64 0) by go_simp)
        have r1 := (hb1.cell (p := ⟨w.heap.size + 2, 1, none⟩) (by go_simp)).trans (show _ = some (Value.int .i64 0) by go_simp)
        have r2 := (hb1.cell (p := ⟨w.heap.size + 2, 2, none⟩) (by go_simp)).trans (show _ = some (Value.slice none 0 0) by go_simp)
        have g0 := (hb1.frozen (p := ⟨w.heap.size + 2, 0, none⟩) (by go_simp)).trans (show _ = false by go_simp)
        have g1 := (hb1.frozen (p := ⟨w.heap.size + 2, 1, none⟩) (by go_simp)).trans (show _ = false by go_simp)
        have g2 := (hb1.frozen (p := ⟨w.heap.size + 2, 2, none⟩) (by go_simp)).trans (show _ = false by go_simp)
        have hQ := Lib.hid (show PatQ w1 (w.heap.size + 2) 0 0 (.slice none 0 0) from ⟨b2, r0, r1, r2, g2⟩)
        have hG := Lib.hid (And.intro g0 g1)
        clear r0 r1 r2 g0 g1 g2
        have hsz1 := hB1.out.size
        clear chb1 fhb1 shb1 thb1 hb1
        go_loopg [12] H (fun gk i wr => ∃ (y : Nat) (A2 : Option Addr) (c2 : Nat), y + gk = H ∧ i = .int .i64 ((y : Int) + 1) ∧ Hid (∀ y' : Nat, y' < y → ∀ x : Nat, x < W → 0 ≤ colAt ts ys ((x : Int) + 1) ((y' : Int) + 1)) ∧ Hid (PatQ wr w1.heap.size (W : Int) (H : Int) (.slice A2 (patC ts ys W y 0).length c2)) ∧ Hid (wr.ownsRow (w1.heap.size + 1) 2 1 (.slice A2 (patC ts ys W y 0).length c2) (patC ts ys W y 0).length ((patC ts ys W y 0).map (Value.int .i64))) ∧ Hid (Below w1.heap.size w1 wr))
        case atStart => exact ⟨0, none, 0, by omega, rfl, Lib.hid (fun y' hy' => by omega), Lib.hid (PatQ.new _ _ _ _ _), Lib.hid (World.ownsRow_nil _ _ _ _), Lib.hid (bl_al (bl_refl _) _)⟩
        case round =>
          obtain ⟨y, A2, c2, hy, rfl, hok, hpq, hrow, hbw⟩ := hrel
          by_cases hyH : y < H
          · have hyHI : (y : Int) + 1 ≤ (H : Int) := by omega
            go_wp2
            obtain ⟨wq, hwq⟩ : ∃ wq : World, wq = wr := ⟨_, rfl⟩
            go_loopg [13] W (fun gk i wr => ∃ (x : Nat) (A2 : Option Addr) (c2 : Nat), x + gk = W ∧ i = .int .i64 ((x : Int) + 1) ∧ Hid (∀ x' : Nat, x' < x → 0 ≤ colAt ts ys ((x' : Int) + 1) ((y : Int) + 1)) ∧ Hid (PatQ wr w1.heap.size (W : Int) (H : Int) (.slice A2 (patC ts ys W y x).length c2)) ∧ Hid (wr.ownsRow (w1.heap.size + 1) 2 1 (.slice A2 (patC ts ys W y x).length c2) (patC ts ys W y x).length ((patC ts ys W y x).map (Value.int .i64))) ∧ Hid (Below w1.heap.size w1 wr))
            case atStart => exact ⟨0, A2, c2, by omega, rfl, Lib.hid (fun y' hy' => by omega), hpq, hrow, hbw⟩
            case round =>
              clear hpq hrow hbw hwq A2 c2
              obtain ⟨x, A2, c2, hx, rfl, hokx, hpq, hrow, hbw⟩ := hrel
              have hszr := hbw.out.size
              have z1 := (hbw.out.cell (p := ⟨w.heap.size, 1, none⟩) b0).trans y1
              have z2 := (hbw.out.cell (p := ⟨w.heap.size + 1, 0, none⟩) b1).trans y2
              have e0 : w.heap.size < wr.heap.size := by omega
              have e1 : w.heap.size + 1 < wr.heap.size := by omega
              have e2 := hpq.out.lt
              have p2 := hpq.out.c2
              have pf := hpq.out.fr
              by_cases hxW : x < W
              · have hA1 := Lib.hid (hSA.out.below (hB1.out.trans (hbw.out.mono hsz1)))
                have hAr := Lib.hid (hA0.out.below hbw.out)
                have hxWI : (x : Int) + 1 ≤ (W : Int) := by omega
                have hpl := patC_len (ts := ts) (ys := ys) (W := W) (y := y) (x := x) (by omega) (by omega) (by omega)
                obtain ⟨L, hL⟩ : ∃ L, patC ts ys W y x = L := ⟨_, rfl⟩
                have hLH := Lib.hid hL
                rw [hL] at hpq hrow p2 hpl
                obtain ⟨N, hN⟩ : ∃ N, L.length = N := ⟨_, rfl⟩
                have hNH := Lib.hid hN
                rw [hN] at hpq hrow p2 hpl
                clear hL hN
                rcases atI_cases hV ((x : Int) + 1) ((y : Int) + 1) with ⟨h1, hat⟩ | ⟨kk, tt, e, h1, he, ht, htl, hat⟩
                · have hatH := Lib.hid hat
                  have hres := Lib.hid (hbad.out x y hxW hyH (by rw [colAt_none hat]; decide))
                  clear h1 hat
                  go_wp2_with (go_at_call 76; refine (l03At_any _ gs ts ys _ _ _ _ hAr.out hV hatH.out).mono ?_; rintro e w2 ⟨rfl, hb2⟩; have hq2 := (hQ.out.below hbw.out b2).below hb2 (by omega); have q0 := hq2.c0; have q1 := hq2.c1; have q2 := hq2.c2; have q3 := hq2.fr; have q4 := (hb2.frozen (p := ⟨w.heap.size + 2, 0, none⟩) (show w.heap.size + 2 < wr.heap.size by omega)).trans ((hbw.out.frozen (p := ⟨w.heap.size + 2, 0, none⟩) b2).trans hG.out.1); have q5 := (hb2.frozen (p := ⟨w.heap.size + 2, 1, none⟩) (show w.heap.size + 2 < wr.heap.size by omega)).trans ((hbw.out.frozen (p := ⟨w.heap.size + 2, 1, none⟩) b2).trans hG.out.2); have q6 := hq2.lt; have s9 := hb2.size; have hB9 := Lib.hid (hB1.out.trans ((hbw.out.trans (hb2.mono hszr)).mono hsz1)); clear hb2 hq2)
                  refine bodyPost_ret (v := .tuple #[.agg #[.int .i64 0, .int .i64 0, .slice none 0 0], .int .i64 9]) (by simp only [results, Tryz.results30]; go_simp) rfl ?_
                  exact PatRes.of hres.out rfl (World.ownsRow_nil _ _ _ _) (by have h9 := hB9.out; repeat (first | with_reducible exact bl_refl _ | with_reducible assumption | with_reducible refine bl_al ?_ _ | with_reducible refine bl_dr ?_ | with_reducible refine bl_tr ?_ (by assumption) | with_reducible refine bl_set ?_ ?_ _ | with_reducible exact Nat.le_refl _ | omega | (simp only [World.size_alloc, World.size_setCell, World.size_drew] at *; omega) | (dsimp only; omega) | (simp; done) | (simp; omega)))
                · have hatH := Lib.hid hat
                  clear h1 hat he ht e
                  have htm : tt < m := by omega
                  go_wp2_with fail
                  refine (l03At_any _ gs ts ys _ _ _ _ hAr.out hV hatH.out).mono ?_
                  rintro e' w2 ⟨rfl, hb2⟩
                  have x1 := (hb2.cell (p := ⟨w.heap.size, 1, none⟩) e0).trans z1
                  have f0 : w.heap.size < w2.heap.size := Nat.lt_of_lt_of_le e0 hb2.size
                  have hT2 := hA1.out.T.below RTi.stable hb2
                  obtain ⟨e, he⟩ := hT2.get htm
                  obtain ⟨bt, ot, hTe, hbt, hct⟩ := hT2.ptr (by omega)
                  subst hTe
                  obtain ⟨c0, _⟩ := hct tt e he
                  have hsz := (hA1.out.tn tt e he).1
                  have hcs := colAt_some hatH.out he
                  have ht0 : ¬ (tt : Int) < 0 := by omega
                  obtain ⟨s, hs⟩ : ∃ s, e.name = s := ⟨_, rfl⟩
                  rw [hs] at c0 hsz hcs
                  have hcsH := Lib.hid hcs
                  have hq2 := (hQ.out.below hbw.out b2).below hb2 (by omega)
                  have q0 := hq2.c0
                  have q1 := hq2.c1
                  have q2 := hq2.c2
                  have q3 := hq2.fr
                  have q4 := (hb2.frozen (p := ⟨w.heap.size + 2, 0, none⟩) (show w.heap.size + 2 < wr.heap.size by omega)).trans ((hbw.out.frozen (p := ⟨w.heap.size + 2, 0, none⟩) b2).trans hG.out.1)
                  have q5 := (hb2.frozen (p := ⟨w.heap.size + 2, 1, none⟩) (show w.heap.size + 2 < wr.heap.size by omega)).trans ((hbw.out.frozen (p := ⟨w.heap.size + 2, 1, none⟩) b2).trans hG.out.2)
                  have q6 := hq2.lt
                  have s9 := hb2.size
                  have hB9 := Lib.hid (hB1.out.trans ((hbw.out.trans (hb2.mono hszr)).mono hsz1))
                  have hB2 := Lib.hid (hbw.out.trans (hb2.mono hszr))
                  have hpq2 := Lib.hid (hpq.out.below hb2 hpq.out.lt)
                  have hrow2 := Lib.hid (ownsRow_below hrow.out hb2)
                  have p2' := hpq2.out.c2
                  have pf' := hpq2.out.fr
                  have p9' := hpq2.out.lt
                  have lbt2 : bt < w2.heap.size := hbt
                  clear hct hT2 he hs hb2 hq2 p2 pf hcs
                  by_cases h4 : s.size < 4
                  · have h4d : ((s.size : Int) < 4) := by omega
                    have hres := Lib.hid (hbad.out x y hxW hyH (by rw [hcsH.out, colI_lt h4]; decide))
                    go_wp2
                    refine bodyPost_ret (v := .tuple #[.agg #[.int .i64 0, .int .i64 0, .slice none 0 0], .int .i64 9]) (by simp only [results, Tryz.results30]; go_simp) rfl ?_
                    exact PatRes.of hres.out rfl (World.ownsRow_nil _ _ _ _) (by have h9 := hB9.out; repeat (first | with_reducible exact bl_refl _ | with_reducible assumption | with_reducible refine bl_al ?_ _ | with_reducible refine bl_dr ?_ | with_reducible refine bl_tr ?_ (by assumption) | with_reducible refine bl_set ?_ ?_ _ | with_reducible exact Nat.le_refl _ | omega | (simp only [World.size_alloc, World.size_setCell, World.size_drew] at *; omega) | (dsimp only; omega) | (simp; done) | (simp; omega)))
                  · obtain ⟨a, b, c, d, l, rfl⟩ := bytesL h4
                    rw [colI_eq] at hcsH
                    obtain ⟨N4, hN4⟩ : ∃ N4, ({ data := ⟨a :: b :: c :: d :: l⟩ } : ByteArray).size = N4 := ⟨_, rfl⟩
                    have hn4 : ¬ N4 < 4 := by omega
                    have hn4d : ¬ (N4 : Int) < 4 := by omega
                    rw [hN4] at hsz
                    clear h4
                    cases ha : ((a.toNat : Int) == 99)
                    · have ha2 : ¬ (a.toNat : Int) = 99 := by simpa using ha
                      have hres := Lib.hid (hbad.out x y hxW hyH (by rw [hcsH.out, colL_a ha]; decide))
                      go_wp2
                      refine bodyPost_ret (v := .tuple #[.agg #[.int .i64 0, .int .i64 0, .slice none 0 0], .int .i64 9]) (by simp only [results, Tryz.results30]; go_simp) rfl ?_
                      exact PatRes.of hres.out rfl (World.ownsRow_nil _ _ _ _) (by have h9 := hB9.out; repeat (first | with_reducible exact bl_refl _ | with_reducible assumption | with_reducible refine bl_al ?_ _ | with_reducible refine bl_dr ?_ | with_reducible refine bl_tr ?_ (by assumption) | with_reducible refine bl_set ?_ ?_ _ | with_reducible exact Nat.le_refl _ | omega | (simp only [World.size_alloc, World.size_setCell, World.size_drew] at *; omega) | (dsimp only; omega) | (simp; done) | (simp; omega)))
                    · have ha2 : (a.toNat : Int) = 99 := by simpa using ha
                      cases hc : ((c.toNat : Int) == 95)
                      · have hc2 : ¬ (c.toNat : Int) = 95 := by simpa using hc
                        have hres := Lib.hid (hbad.out x y hxW hyH (by rw [hcsH.out, colL_c ha hc]; decide))
                        go_wp2
                        refine bodyPost_ret (v := .tuple #[.agg #[.int .i64 0, .int .i64 0, .slice none 0 0], .int .i64 9]) (by simp only [results, Tryz.results30]; go_simp) rfl ?_
                        exact PatRes.of hres.out rfl (World.ownsRow_nil _ _ _ _) (by have h9 := hB9.out; repeat (first | with_reducible exact bl_refl _ | with_reducible assumption | with_reducible refine bl_al ?_ _ | with_reducible refine bl_dr ?_ | with_reducible refine bl_tr ?_ (by assumption) | with_reducible refine bl_set ?_ ?_ _ | with_reducible exact Nat.le_refl _ | omega | (simp only [World.size_alloc, World.size_setCell, World.size_drew] at *; omega) | (dsimp only; omega) | (simp; done) | (simp; omega)))
                      · have hc2 : (c.toNat : Int) = 95 := by simpa using hc
                        have hb : b.toNat < 256 := b.toNat_lt
                        have hbw64 : IntKind.i64.wrap (b.toNat : Int) = (b.toNat : Int) := wrap_in (by omega) (by omega)
                        cases hd : inB (b.toNat : Int) 48 53
                        · have hdH := Lib.hid hd
                          have hres := Lib.hid (hbad.out x y hxW hyH (by rw [hcsH.out, colL_b ha hc hd]; decide))
                          go_wp2_with (go_at_call 75; refine (l00In_any _ _ _ _).mono ?_; rw [hdH.out]; rintro e _ ⟨rfl, rfl⟩)
                          refine bodyPost_ret (v := .tuple #[.agg #[.int .i64 0, .int .i64 0, .slice none 0 0], .int .i64 9]) (by simp only [results, Tryz.results30]; go_simp) rfl ?_
                          exact PatRes.of hres.out rfl (World.ownsRow_nil _ _ _ _) (by have h9 := hB9.out; repeat (first | with_reducible exact bl_refl _ | with_reducible assumption | with_reducible refine bl_al ?_ _ | with_reducible refine bl_dr ?_ | with_reducible refine bl_tr ?_ (by assumption) | with_reducible refine bl_set ?_ ?_ _ | with_reducible exact Nat.le_refl _ | omega | (simp only [World.size_alloc, World.size_setCell, World.size_drew] at *; omega) | (dsimp only; omega) | (simp; done) | (simp; omega)))
                        · have hdH := Lib.hid hd
                          have hin := inB_true.1 hd
                          obtain ⟨v, hv⟩ : ∃ v, (b.toNat : Int) - 48 = v := ⟨_, rfl⟩
                          have hcv : colAt ts ys ((x : Int) + 1) ((y : Int) + 1) = v := by rw [hcsH.out, colL_y ha hc hd, hv]
                          have hcvH := Lib.hid hcv
                          have hv0 : 0 ≤ v := by omega
                          have hw8 : IntKind.u8.wrap v = v := by
                            simp [IntKind.wrap, IntKind.bits, IntKind.signed]; omega
                          have hw6 : IntKind.i64.wrap v = v := wrap_in (by omega) (by omega)
                          clear hcv
                          go_wp2_with (go_at_call 75; refine (l00In_any _ _ _ _).mono ?_; rw [hdH.out]; rintro e _ ⟨rfl, rfl⟩)
                          
                          refine wp_region_ord [(0, .q), (1, .q), (2, .q), (3, .q), (4, .q), (5, .q), (6, .g), (7, .b), (8, .q), (9, .b)] (by kernel_rfl) (by kernel_rfl) ?_
                          simp only [pick, List.filterMap_cons, List.filterMap_nil, List.getElem?_toArray, List.getElem?_cons_zero, List.getElem?_cons_succ, Option.map_some]
                          repeat (first
                            | ((with_reducible refine wpD_p (fun K hK => ?_)); go_simp; refine hK _ ?_; clear hK K)
                            | ((with_reducible refine wpD_q (fun K hK => ?_)); go_simp; (first | refine hK _ ?_ | (go_bits; refine hK _ ?_) | (go_bits; go_simp; refine hK _ ?_)); clear hK K)
                            | ((with_reducible refine wpD_g (fun K hK => ?_)); go_simp; refine hK _ _ ?_; clear hK K)
                            | ((with_reducible refine wpD_g (fun K hK => ?_)); go_simp; refine ⟨Grew.of_alloc _, hK _ _ ?_⟩; clear hK K))
                          
                          have hb5 : Below w2.heap.size w2 (w2.alloc (Obj.cells #[.int .i64 v] 2)).drew := by repeat (first | with_reducible exact bl_refl _ | with_reducible assumption | with_reducible refine bl_al ?_ _ | with_reducible refine bl_dr ?_ | with_reducible refine bl_tr ?_ (by assumption) | with_reducible refine bl_set ?_ ?_ _ | with_reducible exact Nat.le_refl _ | omega | (simp only [World.size_alloc, World.size_setCell, World.size_drew] at *; omega) | (dsimp only; omega) | (simp; done) | (simp; omega))
                          have hb5H := Lib.hid hb5
                          have s5 := hb5.size
                          have hrow5 := Lib.hid (ownsRow_below hrow2.out hb5)
                          clear hb5
                          refine wpD_append rfl _ _ 64 rfl (w1.heap.size + 1) 2 i0 (.int .i64 0) 1 8 Tryz.underlying64 hi hz0 hz1 hz2 rfl (by decide) (.slice A2 N c2) N (L.map (Value.int .i64)) (by go_simp) hrow5.out ⟨w2.heap.size, 0, none⟩ 1 1 [.int .i64 v] (by go_simp) rfl ?hnews (fun x hx => by simp at hx; subst hx; rfl) (by unfold maxLen; omega) (by omega) (by simp; omega) ?_
                          case hnews =>
                            have := cell_one_new w2 (.int .i64 v) 2
                            simpa using this
                          intro v5 w5 hown hgrow
                          obtain ⟨A5, c5, rfl⟩ := ownsRow_form hown
                          have hownH := Lib.hid hown
                          have hb6 : Below (w1.heap.size + 1) w2 w5 := (hb5H.out.mono (by omega)).grown hgrow (by omega) (fun g e => (hrow5.out.lt g e).1)
                          have hpq5 := hpq2.out.below hb6 (by omega)
                          have hpq5H := Lib.hid hpq5
                          have m2 := hpq5.c2
                          have mf := hpq5.fr
                          have m9 := hpq5.lt
                          have hB6 := Lib.hid (hB2.out.trans (hb6.mono (Nat.le_succ _)))
                          have hs := Lib.hid (show patC ts ys W y (x + 1) = L ++ [v] by rw [patC_next, hLH.out, hcvH.out])
                          clear hown hgrow hb6 hpq5
                          repeat (first | ((with_reducible refine wpD_p (fun K hK => ?_)); go_simp; refine hK _ ?_; clear hK K) | ((with_reducible refine wpD_q (fun K hK => ?_)); go_simp; (first | refine hK _ ?_ | (go_bits; refine hK _ ?_) | (go_bits; go_simp; refine hK _ ?_)); clear hK K))
                          with_reducible refine wpD_b (fun K hK => ?_)
                          go_simp
                          refine hK _ _ ?_
                          clear hK K
                          with_reducible refine wpD_nil ?_
                          go_wp2
                          go_roundg (W - (x + 1))
                          case measure => omega
                          case rel => exact ⟨x + 1, A5, c5, by omega, by go_num, Lib.hid (fun x' hx' => by
                              rcases Nat.lt_succ_iff_lt_or_eq.1 hx' with h | rfl
                              · exact hokx.out x' h
                              · rw [hcvH.out]; exact hv0), Lib.hid (by rw [hs.out, List.length_append, hNH.out]; exact hpq5H.out.set), Lib.hid (by rw [hs.out, List.length_append, List.map_append, hNH.out]; exact ownsRow_setCell_below hownH.out (Nat.lt_succ_self _) _), Lib.hid (hB6.out.setCell (p := ⟨w1.heap.size, 2, none⟩) (Nat.le_refl _) _)⟩
              · obtain rfl : x = W := by omega
                go_wp2
                go_roundg (H - (y + 1))
                case measure => omega
                case rel => exact ⟨y + 1, A2, c2, by omega, by go_num, Lib.hid (fun y' hy' => by
                    rcases Nat.lt_succ_iff_lt_or_eq.1 hy' with h | rfl
                    · exact hok.out y' h
                    · exact hokx.out), Lib.hid (by rw [patC_row]; exact hpq.out), Lib.hid (by rw [patC_row]; exact hrow.out), hbw⟩
          · obtain rfl : y = H := by omega
            have hres := Lib.hid (hr.out (fun y' hy' x hx => hok.out y' hy' x hx))
            have q0 := (hQ.out.below hbw.out b2).c0
            have q1 := (hQ.out.below hbw.out b2).c1
            have q2 := (hQ.out.below hbw.out b2).c2
            have q3 := (hQ.out.below hbw.out b2).fr
            have q4 := (hbw.out.frozen (p := ⟨w.heap.size + 2, 0, none⟩) b2).trans hG.out.1
            have q5 := (hbw.out.frozen (p := ⟨w.heap.size + 2, 1, none⟩) b2).trans hG.out.2
            have q6 := (hQ.out.below hbw.out b2).lt
            have p0 := hpq.out.c0
            have p1 := hpq.out.c1
            have p2 := hpq.out.c2
            have p9 := hpq.out.lt
            have hB3 := Lib.hid (hB1.out.trans (hbw.out.mono hsz1))
            go_wp2
            refine bodyPost_ret (v := .tuple #[.agg #[.int .i64 (W : Int), .int .i64 (y : Int), .slice A2 (patC ts ys W y 0).length c2], .int .i64 0]) (by simp only [results, Tryz.results30]; go_simp) rfl ?_
            exact PatRes.of hres.out rfl (ownsRow_base (ownsRow_setCell_below (ownsRow_setCell_below (ownsRow_setCell_below hrow.out (by simp; omega) _) (by simp; omega) _) (by simp; omega) _) (by omega)) (by have h9 := hB3.out; repeat (first | with_reducible exact bl_refl _ | with_reducible assumption | with_reducible refine bl_al ?_ _ | with_reducible refine bl_dr ?_ | with_reducible refine bl_tr ?_ (by assumption) | with_reducible refine bl_set ?_ ?_ _ | with_reducible exact Nat.le_refl _ | omega | (simp only [World.size_alloc, World.size_setCell, World.size_drew] at *; omega) | (dsimp only; omega) | (simp; done) | (simp; omega)))
end Go.Proofs.YtjacdgdojemnkaaGreat
