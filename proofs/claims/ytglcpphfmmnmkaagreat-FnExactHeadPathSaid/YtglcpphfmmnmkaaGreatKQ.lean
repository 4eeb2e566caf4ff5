import Derived.Test.YtglcpphfmmnmkaaGreatKT
import Derived.Test.YtglcpphfmmnmkaaGreatKS
import Derived.Test.YtglcpphfmmnmkaaGreatOrdApp
import Derived.Test.YtglcpphfmmnmkaaGreatShelf
import Derived.Test.YtglcpphfmmnmkaaGreatW15
import Derived.RegionTactic
set_option linter.unusedSimpArgs false
set_option linter.unusedVariables false
/- Plain: what the north sides of rows tell: symbols and heads. -/




namespace Go.Proofs.YtglcpphfmmnmkaaGreat
open Go.RowKit
/-- a symbol (1), a symbol with a head (2), or neither -/
def cellK (s : ByteArray) : Nat := match s.data.toList with
  | [a, d] => if (a.toNat : Int) = 97 ∧ digitI (d.toNat : Int) = true then 1 else 0
  | [a, d, e, f] => if (a.toNat : Int) = 104 ∧ digitI (d.toNat : Int) = true ∧ (e.toNat : Int) = 95 ∧ digitI (f.toNat : Int) = true then 2 else 0
  | _ => 0
theorem bytesA2 {s : ByteArray} (h : s.size = 2) : ∃ a b : UInt8, s = { data := #[a, b] } := by
  obtain ⟨⟨l⟩⟩ := s
  have h : l.length = 2 := h
  match l, h with
  | [a, b], _ => exact ⟨a, b, rfl⟩
theorem bytesA4 {s : ByteArray} (h : s.size = 4) : ∃ a b c d : UInt8, s = { data := #[a, b, c, d] } := by
  obtain ⟨⟨l⟩⟩ := s
  have h : l.length = 4 := h
  match l, h with
  | [a, b, c, d], _ => exact ⟨a, b, c, d, rfl⟩
theorem cellK_ne {s : ByteArray} (h : ¬ s.size = 2) (h4 : ¬ s.size = 4) : cellK s = 0 := by
  obtain ⟨⟨l⟩⟩ := s
  have h : ¬ l.length = 2 := h
  have h4 : ¬ l.length = 4 := h4
  unfold cellK
  match l, h, h4 with
  | [], _, _ => rfl
  | [_], _, _ => rfl
  | [_, _], h, _ => exact (h rfl).elim
  | [_, _, _], _, _ => rfl
  | [_, _, _, _], _, h => exact (h rfl).elim
  | _ :: _ :: _ :: _ :: _ :: _, _, _ => rfl
theorem cellK_2 (a d : UInt8) : cellK { data := #[a, d] } = if (a.toNat : Int) = 97 ∧ digitI (d.toNat : Int) = true then 1 else 0 := rfl
theorem cellK_4 (a d e f : UInt8) : cellK { data := #[a, d, e, f] } = if (a.toNat : Int) = 104 ∧ digitI (d.toNat : Int) = true ∧ (e.toNat : Int) = 95 ∧ digitI (f.toNat : Int) = true then 2 else 0 := rfl
theorem cellK_empty : cellK ByteArray.empty = 0 := cellK_ne (by decide) (by decide)
theorem cellK_le (s : ByteArray) : cellK s = 0 ∨ cellK s = 1 ∨ cellK s = 2 := by
  by_cases h2 : s.size = 2
  · obtain ⟨a, d, rfl⟩ := bytesA2 h2
    rw [cellK_2]
    split <;> simp
  · by_cases h4 : s.size = 4
    · obtain ⟨a, b, c, d, rfl⟩ := bytesA4 h4
      rw [cellK_4]
      split <;> simp
    · exact .inl (cellK_ne h2 h4)
/-- what a text of one digit is, or -1 -/
def digG (l : List UInt8) : Int := match l with
  | [b] => digitV (b.toNat : Int)
  | _ => -1
theorem digG_some {l : List UInt8} (h : 0 ≤ digG l) : ∃ b, l = [b] ∧ digitI (b.toNat : Int) = true := by
  match l with
  | [] => exact absurd h (by decide)
  | [b] =>
    refine ⟨b, rfl, ?_⟩
    cases hd : digitI (b.toNat : Int)
    · exact ((digitV_no hd).2 h).elim
    · rfl
  | _ :: _ :: _ => exact absurd h (by simp [digG])
theorem digG_one {b : UInt8} (h : digitI (b.toNat : Int) = true) : 0 ≤ digG [b] := (digitV_yes h).2
theorem digG_rng (l : List UInt8) : digG l = -1 ∨ 0 ≤ digG l := by
  match l with
  | [] => exact .inl rfl
  | [b] =>
    cases hd : digitI (b.toNat : Int)
    · exact .inl (digitV_no hd).1
    · exact .inr (digitV_yes hd).2
  | _ :: _ :: _ => exact .inl rfl
/-- a name that begins with a -/
theorem cellK_a {s : ByteArray} (h : Lib.hasPrefix s.data.toList [97] = true) : cellK s = if 0 ≤ digG (Lib.trimPrefix s.data.toList [97]) then 1 else 0 := by
  obtain ⟨⟨l⟩⟩ := s
  have h : Lib.hasPrefix l [97] = true := h
  show cellK { data := ⟨l⟩ } = if 0 ≤ digG (Lib.trimPrefix l [97]) then 1 else 0
  unfold Lib.trimPrefix
  rw [if_pos h]
  match l, h with
  | [], h => cases h
  | [a], h => rfl
  | [a, d], h =>
    have ha : a = 97 := (show 97 = a by simpa [Lib.hasPrefix] using h).symm
    subst ha
    show (if (((97 : UInt8).toNat : Int) = 97 ∧ digitI (d.toNat : Int) = true) then 1 else 0) = if 0 ≤ digG [d] then 1 else 0
    cases hd : digitI (d.toNat : Int)
    · rw [if_neg (fun x => by cases x.2), if_neg (show ¬ 0 ≤ digG [d] from (digitV_no hd).2)]
    · rw [if_pos ⟨rfl, rfl⟩, if_pos (show 0 ≤ digG [d] from (digitV_yes hd).2)]
  | [a, b, c], h => rfl
  | [a, b, c, d], h =>
    have ha : a = 97 := (show 97 = a by simpa [Lib.hasPrefix] using h).symm
    subst ha
    rw [cellK_4, if_neg (fun x => absurd x.1 (by decide)), if_neg (by simp [digG])]
  | a :: b :: c :: d :: e :: r, h => rfl
/-- a name that does not begin with a -/
theorem cellK_h {s : ByteArray} (h : Lib.hasPrefix s.data.toList [97] = false) : cellK s = if Lib.hasPrefix s.data.toList [104] = true ∧ 0 ≤ digG (Lib.cut (Lib.trimPrefix s.data.toList [104]) [95]).1 ∧ 0 ≤ digG (Lib.cut (Lib.trimPrefix s.data.toList [104]) [95]).2.1 then 2 else 0 := by
  obtain ⟨⟨l⟩⟩ := s
  have h : Lib.hasPrefix l [97] = false := h
  show cellK { data := ⟨l⟩ } = if Lib.hasPrefix l [104] = true ∧ 0 ≤ digG (Lib.cut (Lib.trimPrefix l [104]) [95]).1 ∧ 0 ≤ digG (Lib.cut (Lib.trimPrefix l [104]) [95]).2.1 then 2 else 0
  split
  · rename_i hh
    obtain ⟨hp, h1, h2⟩ := hh
    unfold Lib.trimPrefix at h1 h2
    rw [if_pos hp] at h1 h2
    match l, hp with
    | [], hp => cases hp
    | a :: r, hp =>
      have ha : a = 104 := (show 104 = a by simpa [Lib.hasPrefix] using hp).symm
      subst ha
      simp only [List.length_cons, List.length_nil, List.drop_succ_cons, List.drop_zero] at h1 h2
      unfold Lib.cut at h1 h2
      rcases Lib.index_spec r [95] with ⟨e, _⟩ | ⟨i, e, hi, ho, _⟩
      · rw [e, if_neg (by decide)] at h2
        exact absurd h2 (by simp [digG])
      · rw [e, if_pos (by omega)] at h1 h2
        obtain ⟨b, hb, hbd⟩ := digG_some h1
        obtain ⟨c, hc, hcd⟩ := digG_some h2
        simp only [Int.toNat_natCast, List.length_cons, List.length_nil] at hb hc
        match r, hb, hc, ho, hi with
        | [], hb, hc, ho, hi => simp at hb
        | [x], hb, hc, ho, hi =>
          have := congrArg List.length hc
          simp at this
        | [x, y], hb, hc, ho, hi =>
          have h5 := congrArg List.length hb
          have h6 := congrArg List.length hc
          simp at h5 h6
          omega
        | x :: y :: z :: t, hb, hc, ho, hi =>
          have h5 := congrArg List.length hb
          simp at h5
          obtain rfl : i = 1 := by omega
          simp at hb hc
          obtain ⟨rfl, rfl⟩ := hc
          subst hb
          have hy : y = 95 := (show 95 = y by simpa [Lib.occAt] using ho).symm
          subst hy
          show (if _ then 2 else 0) = 2
          exact if_pos ⟨rfl, hbd, rfl, hcd⟩
  · rename_i hh
    rcases Classical.em (l.length = 2) with h2 | h2
    · match l, h2 with
      | [a, d], _ =>
        refine if_neg (fun x => ?_)
        have : a = 97 := by
          have h3 : a.toNat = 97 := by omega
          exact UInt8.toNat_inj.1 h3
        subst this
        simp [Lib.hasPrefix] at h
    · rcases Classical.em (l.length = 4) with h4 | h4
      · match l, h4 with
        | [a, d, e, f], _ =>
          refine if_neg (fun x => hh ?_)
          obtain ⟨x1, x2, x3, x4⟩ := x
          have ha : a = 104 := UInt8.toNat_inj.1 (by show a.toNat = 104; omega)
          have he : e = 95 := UInt8.toNat_inj.1 (by show e.toNat = 95; omega)
          subst ha; subst he
          have hd95 : ¬ d = 95 := by
            rintro rfl
            exact absurd x2 (by decide)
          have hidx : Lib.index [d, 95, f] [95] = 1 := by
            refine Lib.index_first (i := 1) (by simp) (by simp [Lib.occAt]) (fun j hj => ?_)
            obtain rfl : j = 0 := by omega
            simp only [Lib.occAt, List.drop_zero, List.isPrefixOf, Bool.and_true]
            exact beq_eq_false_iff_ne.2 (fun h => hd95 h.symm)
          have hc : Lib.cut [d, 95, f] [95] = ([d], [f], true) := by
            unfold Lib.cut
            rw [hidx, if_pos (by decide)]
            rfl
          refine ⟨by simp [Lib.hasPrefix], ?_, ?_⟩
          · show 0 ≤ digG (Lib.cut [d, 95, f] [95]).1
            rw [hc]; exact digG_one x2
          · show 0 ≤ digG (Lib.cut [d, 95, f] [95]).2.1
            rw [hc]; exact digG_one x4
      · exact cellK_ne h2 h4
/-- the kind of the north side at a point -/
noncomputable def cellAt (gs : List Gl) (ts : List Ti) (ys : List Pl) (x y : Int) : Nat := cellK (gluedS gs ts ys x y 0)
/-- the head among the first x cells of a row: -1 none, -2 the row cannot be read -/
noncomputable def scanH (gs : List Gl) (ts : List Ti) (ys : List Pl) (y : Int) : Nat → Int
  | 0 => -1
  | x + 1 => if cellAt gs ts ys (x : Int) y = 0 then -2 else if cellAt gs ts ys (x : Int) y = 1 then scanH gs ts ys y x else if scanH gs ts ys y x = -1 then (x : Int) else -2
section
variable {gs : List Gl} {ts : List Ti} {ys : List Pl} {y : Int} {x : Nat}
theorem scan_0 (h : cellAt gs ts ys (x : Int) y = 0) : scanH gs ts ys y (x + 1) = -2 := by simp only [scanH]; rw [if_pos h]
theorem scan_1 (h : cellAt gs ts ys (x : Int) y = 1) : scanH gs ts ys y (x + 1) = scanH gs ts ys y x := by simp only [scanH]; rw [if_neg (by omega), if_pos h]
theorem scan_2 (h : cellAt gs ts ys (x : Int) y = 2) (h2 : scanH gs ts ys y x = -1) : scanH gs ts ys y (x + 1) = (x : Int) := by simp only [scanH]; rw [if_neg (by omega), if_neg (by omega), if_pos h2]
theorem scan_3 (h : cellAt gs ts ys (x : Int) y = 2) (h2 : ¬ scanH gs ts ys y x = -1) : scanH gs ts ys y (x + 1) = -2 := by simp only [scanH]; rw [if_neg (by omega), if_neg (by omega), if_neg h2]
theorem scan_bad (h : scanH gs ts ys y x = -2) : ∀ k, scanH gs ts ys y (x + k) = -2
  | 0 => h
  | k + 1 => by
    have ih := scan_bad h k
    rw [show x + (k + 1) = (x + k) + 1 from rfl]
    simp only [scanH]
    rw [ih]
    split
    · rfl
    · split
      · rfl
      · rw [if_neg (by decide)]
theorem scan_lt (h : scanH gs ts ys y x = -2) {W : Nat} (hw : x ≤ W) : scanH gs ts ys y W = -2 := by
  obtain ⟨k, rfl⟩ := Nat.le.dest hw
  exact scan_bad h k
theorem scan_rng (gs : List Gl) (ts : List Ti) (ys : List Pl) (y : Int) : ∀ x, scanH gs ts ys y x = -2 ∨ scanH gs ts ys y x = -1 ∨ ∃ k : Nat, scanH gs ts ys y x = (k : Int) ∧ k < x
  | 0 => .inr (.inl rfl)
  | x + 1 => by
    have ih := scan_rng gs ts ys y x
    simp only [scanH]
    split
    · exact .inl rfl
    · split
      · rcases ih with h | h | ⟨k, h, hk⟩
        · exact .inl h
        · exact .inr (.inl h)
        · exact .inr (.inr ⟨k, h, by omega⟩)
      · split
        · exact .inr (.inr ⟨x, rfl, by omega⟩)
        · exact .inl rfl
end
/-- the first k rows can be read -/
noncomputable def okN (gs : List Gl) (ts : List Ti) (ys : List Pl) (W : Nat) : Nat → Nat
  | 0 => 0
  | k + 1 => if okN gs ts ys W k = k ∧ 0 ≤ scanH gs ts ys (k : Int) W then k + 1 else okN gs ts ys W k
noncomputable def headsL (gs : List Gl) (ts : List Ti) (ys : List Pl) (W : Nat) : Nat → List Int
  | 0 => []
  | y + 1 => headsL gs ts ys W y ++ [scanH gs ts ys (y : Int) W]
theorem headsL_len (gs : List Gl) (ts : List Ti) (ys : List Pl) (W : Nat) : ∀ y, (headsL gs ts ys W y).length = y
  | 0 => rfl
  | y + 1 => by simp only [headsL, List.length_append, headsL_len gs ts ys W y]; rfl
section
variable {gs : List Gl} {ts : List Ti} {xs ys : List Pl} {t wd : Int} {W : Nat}
theorem okN_all : ∀ k, (∀ y : Nat, y < k → 0 ≤ scanH gs ts ys (y : Int) W) → okN gs ts ys W k = k
  | 0, _ => rfl
  | k + 1, h => by
    simp only [okN]
    rw [if_pos ⟨okN_all k (fun y hy => h y (by omega)), h k (by omega)⟩]
theorem okN_stop {n : Nat} (h : ∀ y : Nat, y < n → 0 ≤ scanH gs ts ys (y : Int) W) (hn : scanH gs ts ys (n : Int) W < 0) : ∀ k, okN gs ts ys W (n + k) = n
  | 0 => okN_all n h
  | k + 1 => by
    have ih := okN_stop h hn k
    rw [show n + (k + 1) = (n + k) + 1 from rfl]
    simp only [okN]
    rw [ih]
    refine if_neg (fun x => ?_)
    obtain ⟨x1, x2⟩ := x
    rw [← x1] at x2
    omega
theorem okN_le : ∀ k, okN gs ts ys W k ≤ k
  | 0 => Nat.le_refl _
  | k + 1 => by
    have := okN_le k
    simp only [okN]
    split <;> omega
theorem plHit {zs : List Pl} {a b : Int} {k : Nat} {e : Pl} (h : placeI zs a b = (k : Int)) (he : zs[k]? = some e) : e.x = a ∧ e.y = b := by
  rcases placeI_is zs a b with ⟨h1, _⟩ | ⟨k', e', h1, h2, h3⟩
  · omega
  · obtain rfl : k = k' := by omega
    rw [he] at h2
    injection h2 with h2
    subst h2
    exact h3
/-- no row above the greatest one -/
theorem scan_high (hV : Valid gs ts ys) {y : Nat} (hy : 60 < y) (hW : 1 ≤ W) : scanH gs ts ys (y : Int) W = -2 := by
  refine scan_lt (x := 1) (scan_0 (x := 0) ?_) hW
  unfold cellAt
  rcases atI_cases hV ((0 : Nat) : Int) (y : Int) with ⟨h1, hat⟩ | ⟨kk, tt, e, h1, he, ht, htl, hat⟩
  · rw [gluedS_none hat, cellK_empty]
  · have hp := plHit h1 he
    have := (hV.pt kk e he).2
    omega
theorem rows_stop (hV : Valid gs ts ys) (hW : 1 ≤ W) {n : Nat} (h : ∀ y : Nat, y < n → 0 ≤ scanH gs ts ys (y : Int) W) : n ≤ 61 := by
  rcases Nat.lt_or_ge 61 n with hn | hn
  · have := h 61 hn
    rw [scan_high hV (by decide) hW] at this
    omega
  · exact hn
theorem okN_is (hV : Valid gs ts ys) (hW : 1 ≤ W) {n : Nat} (h : ∀ y : Nat, y < n → 0 ≤ scanH gs ts ys (y : Int) W) (hn : scanH gs ts ys (n : Int) W < 0) : okN gs ts ys W 61 = n := by
  obtain ⟨k, hk⟩ := Nat.le.dest (rows_stop hV hW h)
  rw [← hk]
  exact okN_stop h hn k
noncomputable def headR (gs : List Gl) (ts : List Ti) (xs : List Pl) (t : Int) (ys : List Pl) (wd : Int) : List Int × Int :=
  if growB gs ts xs t ys = false then ([], 1) else if inB wd 1 12 = false then ([], 2) else
    if okN gs ts ys wd.toNat 61 = 0 then ([], 9) else (headsL gs ts ys wd.toNat (okN gs ts ys wd.toNat 61), 0)
theorem headR_no (h : growB gs ts xs t ys = false) : (([], 1) : List Int × Int) = headR gs ts xs t ys wd := by unfold headR; rw [if_pos h]
theorem headR_range (h : growB gs ts xs t ys = true) (h2 : inB wd 1 12 = false) : (([], 2) : List Int × Int) = headR gs ts xs t ys wd := by unfold headR; rw [if_neg (by rw [h]; decide), if_pos h2]
theorem headR_none (h : growB gs ts xs t ys = true) (h1 : inB (W : Int) 1 12 = true) (h2 : okN gs ts ys W 61 = 0) : (([], 9) : List Int × Int) = headR gs ts xs t ys (W : Int) := by
  unfold headR; rw [if_neg (by rw [h]; decide), if_neg (by rw [h1]; decide), if_pos (by simpa using h2)]
theorem headR_yes (h : growB gs ts xs t ys = true) (h1 : inB (W : Int) 1 12 = true) {n : Nat} (h2 : okN gs ts ys W 61 = n) (h3 : ¬ n = 0) : ((headsL gs ts ys W n, 0) : List Int × Int) = headR gs ts xs t ys (W : Int) := by
  subst h2
  unfold headR; rw [if_neg (by rw [h]; decide), if_neg (by rw [h1]; decide), if_neg (by simpa using h3)]; simp
theorem headR_len (gs : List Gl) (ts : List Ti) (xs : List Pl) (t : Int) (ys : List Pl) (wd : Int) : (headR gs ts xs t ys wd).1.length ≤ 1073741824 := by
  unfold headR
  split
  · simp
  · split
    · simp
    · split
      · simp
      · rw [headsL_len]
        have := okN_le (gs := gs) (ts := ts) (ys := ys) (W := wd.toNat) 61
        omega
end
end Go.Proofs.YtglcpphfmmnmkaaGreat
/- Walks: the symbol and the head that a glue's name tells, the program. -/


namespace Go.Proofs.YtglcpphfmmnmkaaGreat
open Go.RowKit Go.Shelf
attribute [local go_sem] BelowBy.cell BelowBy.cell_drew stillUpon givesUpon BelowBy.cell_drew2 BelowBy.cell_drew3

theorem bytesA1 {s : ByteArray} (h : s.size = 1) : ∃ b : UInt8, s = { data := #[b] } := by
  obtain ⟨⟨l⟩⟩ := s
  have h : l.length = 1 := h
  match l, h with
  | [b], _ => exact ⟨b, rfl⟩
theorem digG_ne {s : ByteArray} (h : ¬ s.size = 1) : digG s.data.toList = -1 := by
  obtain ⟨⟨l⟩⟩ := s
  have h : ¬ l.length = 1 := h
  show digG l = -1
  match l, h with
  | [], _ => rfl
  | [_], h => exact (h rfl).elim
  | _ :: _ :: _, _ => rfl
set_option maxHeartbeats 1000000 in
theorem digit_gen (s : ByteArray) (w : World) (hs : s.size ≤ 9223372036854775807) :
    Calls Tryz.prog 197 #[.string s] w fun e w' => e = .returned (.int .i64 (digG s.data.toList)) ∧ w = w' := by
  by_cases h1 : s.size = 1
  · obtain ⟨b, rfl⟩ := bytesA1 h1
    exact digit_any b w
  · have h1d : ((s.size : Int) == 1) = false := by simp; omega
    have h1e : ¬ (s.size : Int) = 1 := by omega
    have hr := Lib.hid (digG_ne h1)
    go_enter Tryz.func197, Tryz.ntmps197
    go_wp2
    go_ret
    exact ⟨ret_int hr.out.symm, rfl⟩
theorem cutP_at {s : ByteArray} {c : UInt8} (w : World) {r : List UInt8} {b : Bool} (hr : Lib.trimPrefix s.data.toList [c] = r) (hb : Lib.hasPrefix s.data.toList [c] = b) :
    Calls Tryz.prog 196 #[.string s, .string { data := #[c] }] w fun e w' => e = .returned (.tuple #[.string { data := ⟨r⟩ }, .bool b]) ∧ w = w' := by
  subst hr hb
  refine (Tryz.strings_CutPrefix s { data := #[c] } w).mono ?_
  rintro e w' ⟨rfl, rfl⟩
  exact ⟨rfl, rfl⟩
theorem index_one_at {s : ByteArray} {c : UInt8} (w : World) {i : Int} (hi : Lib.index s.data.toList [c] = i) :
    Calls Tryz.prog 215 #[.string s, .string { data := #[c] }] w fun e w' => e = .returned (.int .i64 i) ∧ w = w' := by
  subst hi
  refine (Tryz.stringslite_Index_one s c w).mono ?_
  rintro e w' ⟨rfl, rfl⟩
  exact ⟨by rw [Lib.index_one], rfl⟩
set_option maxRecDepth 100000 in
set_option maxHeartbeats 2000000 in
theorem cutS_at {s : ByteArray} {c : UInt8} (w : World) (hs : s.size ≤ 1000000) {a b : List UInt8} {f : Bool} (h : Lib.cut s.data.toList [c] = (a, b, f)) :
    Calls Tryz.prog 205 #[.string s, .string { data := #[c] }] w fun e w' => e = .returned (.tuple #[.string { data := ⟨a⟩ }, .string { data := ⟨b⟩ }, .bool f]) ∧ Below w.heap.size w w' := by
  have hsz1 : ({ data := #[c] } : ByteArray).size = 1 := rfl
  rcases Lib.indexB_cases s { data := #[c] } with hix | ⟨i, hix, hroom⟩
  · have hixH := Lib.hid (show Lib.index s.data.toList [c] = -1 from hix)
    obtain ⟨e1, e2, e3⟩ := Lib.cutB_miss s { data := #[c] } hix
    have e1 : (⟨(Lib.cut s.data.toList [c]).1.toArray⟩ : ByteArray) = s := e1
    have e2 : (⟨(Lib.cut s.data.toList [c]).2.1.toArray⟩ : ByteArray) = ByteArray.empty := e2
    have e3 : (Lib.cut s.data.toList [c]).2.2 = false := e3
    rw [h] at e1 e2 e3
    have e1 : ({ data := ⟨a⟩ } : ByteArray) = s := e1
    have e2 : ({ data := ⟨b⟩ } : ByteArray) = ByteArray.empty := e2
    have e3 : f = false := e3
    rw [e1, e2, e3]
    clear hix e1 e2 e3 h
    go_enter Tryz.func205, Tryz.ntmps205
    go_wp2_with (go_at_call 215; refine (index_one_at _ hixH.out).mono ?_; rintro e _ ⟨rfl, rfl⟩)
    go_ret3
    exact ⟨rfl, by repeat (first | with_reducible (first | exact bl_refl _ | assumption | refine bl_al ?_ _ | refine bl_dr ?_ | refine bl_tr ?_ (by assumption) | refine bl_set ?_ ?_ _ | exact Nat.le_refl _) | omega | (simp only [World.size_alloc, World.size_setCell, World.size_drew] at *; omega) | (dsimp only; omega) | (simp; done) | (simp; omega))⟩
  · have hixH := Lib.hid (show Lib.index s.data.toList [c] = (i : Int) from hix)
    obtain ⟨e1, e2, e3⟩ := Lib.cutB_hit s { data := #[c] } i hix
    have e1 : (⟨(Lib.cut s.data.toList [c]).1.toArray⟩ : ByteArray) = s.extract 0 i := e1
    have e2 : (⟨(Lib.cut s.data.toList [c]).2.1.toArray⟩ : ByteArray) = s.extract (i + 1) s.size := e2
    have e3 : (Lib.cut s.data.toList [c]).2.2 = true := e3
    rw [h] at e1 e2 e3
    have e1 : ({ data := ⟨a⟩ } : ByteArray) = s.extract 0 i := e1
    have e2 : ({ data := ⟨b⟩ } : ByteArray) = s.extract (i + 1) s.size := e2
    have e3 : f = true := e3
    rw [e1, e2, e3]
    rw [hsz1] at hroom
    have c1 : (0 : Int) ≤ (i : Int) := by omega
    have c2 : (i : Int) ≤ (s.size : Int) := by omega
    have c3 : (0 : Int) ≤ (i : Int) + 1 := by omega
    have c4 : (i : Int) + 1 ≤ (s.size : Int) := by omega
    have c5 : IntKind.i64.wrap ((i : Int) + 1) = (i : Int) + 1 := wrap_in (by omega) (by omega)
    clear hix e1 e2 e3 h
    go_enter Tryz.func205, Tryz.ntmps205
    go_wp2_with (go_at_call 215; refine (index_one_at _ hixH.out).mono ?_; rintro e _ ⟨rfl, rfl⟩)
    refine wp_region_ord [(0, .q), (1, .q), (2, .q), (3, .q), (4, .q), (5, .q), (6, .q), (7, .q), (8, .q), (9, .q), (10, .q), (11, .q)] (by kernel_rfl) (by kernel_rfl) ?_
    simp only [pick, List.filterMap_cons, List.filterMap_nil, List.getElem?_toArray, List.getElem?_cons_zero, List.getElem?_cons_succ, Option.map_some]
    repeat (first
      | ((with_reducible refine wpD_p (fun K hK => ?_)); go_simp; refine hK _ ?_; clear hK K)
      | ((with_reducible refine wpD_q (fun K hK => ?_)); go_simp; (first | refine hK _ ?_ | (go_bits; refine hK _ ?_) | (go_bits; go_simp; refine hK _ ?_)); clear hK K)
      | ((with_reducible refine wpD_g (fun K hK => ?_)); go_simp; refine hK _ _ ?_; clear hK K)
      | ((with_reducible refine wpD_g (fun K hK => ?_)); go_simp; refine ⟨Grew.of_alloc _, hK _ _ ?_⟩; clear hK K))
    with_reducible refine wpD_nil ?_
    go_wp2
    go_ret3
    exact ⟨rfl, by repeat (first | with_reducible (first | exact bl_refl _ | assumption | refine bl_al ?_ _ | refine bl_dr ?_ | refine bl_tr ?_ (by assumption) | refine bl_set ?_ ?_ _ | exact Nat.le_refl _) | omega | (simp only [World.size_alloc, World.size_setCell, World.size_drew] at *; omega) | (dsimp only; omega) | (simp; done) | (simp; omega))⟩
set_option maxRecDepth 100000 in
set_option maxHeartbeats 2000000 in
theorem cut_at {s : ByteArray} {c : UInt8} (w : World) (hs : s.size ≤ 1000000) {a b : List UInt8} {f : Bool} (h : Lib.cut s.data.toList [c] = (a, b, f)) :
    Calls Tryz.prog 198 #[.string s, .string { data := #[c] }] w fun e w' => e = .returned (.tuple #[.string { data := ⟨a⟩ }, .string { data := ⟨b⟩ }, .bool f]) ∧ Below w.heap.size w w' := by
  go_enter Tryz.func198, Tryz.ntmps198
  go_wp2_with (go_at_call 205; refine (cutS_at _ hs h).mono ?_; rintro e w1 ⟨rfl, hb1⟩)
  go_ret3
  exact ⟨rfl, by repeat (first | with_reducible (first | exact bl_refl _ | assumption | refine bl_al ?_ _ | refine bl_dr ?_ | refine bl_tr ?_ (by assumption) | refine bl_set ?_ ?_ _ | exact Nat.le_refl _) | omega | (simp only [World.size_alloc, World.size_setCell, World.size_drew] at *; omega) | (dsimp only; omega) | (simp; done) | (simp; omega))⟩
/-- what cellOf returns -/
def CellRes (w : World) (k : Nat) (e : Ending) (w' : World) : Prop :=
  ∃ st sy, e = .returned (.tuple #[.int .i64 st, .int .i64 sy, .bool (k != 0)]) ∧ (k = 1 → st = -1) ∧ (k = 2 → 0 ≤ st) ∧ Below w.heap.size w w'
theorem len_trim (s : ByteArray) (c : UInt8) : (Lib.trimPrefix s.data.toList [c]).length ≤ s.size := by
  obtain ⟨⟨l⟩⟩ := s
  show (Lib.trimPrefix l [c]).length ≤ l.length
  unfold Lib.trimPrefix
  split
  · simp
  · exact Nat.le_refl _
theorem len_cut (l : List UInt8) (c : UInt8) : (Lib.cut l [c]).1.length ≤ l.length ∧ (Lib.cut l [c]).2.1.length ≤ l.length := by
  unfold Lib.cut
  split
  · simp only [List.length_take, List.length_drop]; omega
  · exact ⟨Nat.le_refl _, Nat.zero_le _⟩
theorem digit_l {l : List UInt8} (w : World) (hs : l.length ≤ 1000000) :
    Calls Tryz.prog 197 #[.string { data := ⟨l⟩ }] w fun e w' => e = .returned (.int .i64 (digG l)) ∧ w = w' :=
  digit_gen { data := ⟨l⟩ } w (by show l.length ≤ _; omega)
set_option maxRecDepth 100000 in
set_option maxHeartbeats 2000000 in
theorem cellOf_any {s : ByteArray} (w : World) (hs : s.size ≤ 1000000) :
    Calls Tryz.prog 184 #[.string s] w (CellRes w (cellK s)) := by
  obtain ⟨r, hr⟩ : ∃ r, Lib.trimPrefix s.data.toList [97] = r := ⟨_, rfl⟩
  have hrl : r.length ≤ 1000000 := by rw [← hr]; exact Nat.le_trans (len_trim s 97) hs
  cases hp : Lib.hasPrefix s.data.toList [97]
  · have hK := Lib.hid (cellK_h hp)
    have hrH := Lib.hid hr
    have hpH := Lib.hid hp
    obtain ⟨r2, hr2⟩ : ∃ r2, Lib.trimPrefix s.data.toList [104] = r2 := ⟨_, rfl⟩
    obtain ⟨b2, hb2⟩ : ∃ b2, Lib.hasPrefix s.data.toList [104] = b2 := ⟨_, rfl⟩
    have hr2l : r2.length ≤ 1000000 := by rw [← hr2]; exact Nat.le_trans (len_trim s 104) hs
    obtain ⟨x, y, f, hc⟩ : ∃ x y f, Lib.cut r2 [95] = (x, y, f) := ⟨_, _, _, rfl⟩
    have hl := len_cut r2 95
    rw [hc] at hl
    have hxs : x.length ≤ 1000000 := Nat.le_trans hl.1 hr2l
    have hys : y.length ≤ 1000000 := Nat.le_trans hl.2 hr2l
    have hK2 := hK.out
    rw [hr2, hb2, hc, show (x, y, f).1 = x from rfl, show (x, y, f).2.1 = y from rfl] at hK2
    have hK2H := Lib.hid hK2
    have hr2H := Lib.hid hr2
    have hb2H := Lib.hid hb2
    have hcH := Lib.hid (show Lib.cut ({ data := ⟨r2⟩ } : ByteArray).data.toList [95] = (x, y, f) from hc)
    have hr2s : ({ data := ⟨r2⟩ } : ByteArray).size ≤ 1000000 := by show r2.length ≤ _; omega
    clear hK hK2 hr2 hb2 hc hl hr hp hrl hr2l
    by_cases d1 : 0 ≤ digG x
    all_goals by_cases d2 : 0 ≤ digG y
    all_goals cases b2
    all_goals
      go_enter Tryz.func184, Tryz.ntmps184
      go_wp2_with fail
      refine (cutP_at _ hrH.out hpH.out).mono ?_
      rintro e _ ⟨rfl, rfl⟩
      go_wp2_with fail
      refine (cutP_at _ hr2H.out hb2H.out).mono ?_
      rintro e _ ⟨rfl, rfl⟩
      go_wp2_with fail
      refine (cut_at _ hr2s hcH.out).mono ?_
      rintro e w1 ⟨rfl, hb1⟩
      go_wp2_with (go_at_call 197; refine (digit_l _ (by first | exact hxs | exact hys)).mono ?_; rintro e _ ⟨rfl, rfl⟩)
      go_ret3
      refine ⟨digG x, digG y, by rw [hK2H.out]; first | rfl | (simp [d1, d2]; done) | (simp [d1]; rw [if_neg (Int.not_le.2 d2), decide_eq_false (Int.not_le.2 d2)]; rfl), fun h => ?_, fun h => ?_, by repeat (first | with_reducible (first | exact bl_refl _ | assumption | refine bl_al ?_ _ | refine bl_dr ?_ | refine bl_tr ?_ (by assumption) | refine bl_set ?_ ?_ _ | exact Nat.le_refl _) | omega | (simp only [World.size_alloc, World.size_setCell, World.size_drew] at *; omega) | (dsimp only; omega) | (simp; done) | (simp; omega))⟩
      · rw [hK2H.out] at h
        split at h <;> omega
      · rw [hK2H.out] at h
        split at h
        · rename_i hh
          exact hh.2.1
        · omega
  · have hK := Lib.hid (cellK_a hp)
    have hrH := Lib.hid hr
    have hpH := Lib.hid hp
    have hK2 := hK.out
    rw [hr] at hK2
    have hK2H := Lib.hid hK2
    clear hK hK2 hr hp
    by_cases d1 : 0 ≤ digG r
    all_goals
      go_enter Tryz.func184, Tryz.ntmps184
      go_wp2_with fail
      refine (cutP_at _ hrH.out hpH.out).mono ?_
      rintro e _ ⟨rfl, rfl⟩
      go_wp2_with (go_at_call 197; refine (digit_l _ hrl).mono ?_; rintro e _ ⟨rfl, rfl⟩)
      go_ret3
      refine ⟨-1, digG r, by rw [hK2H.out]; first | rfl | (simp [d1]; done) | (rw [if_neg (Int.not_le.2 d1), decide_eq_false (Int.not_le.2 d1)]; rfl), fun _ => rfl, fun h => ?_, by repeat (first | with_reducible (first | exact bl_refl _ | assumption | refine bl_al ?_ _ | refine bl_dr ?_ | refine bl_tr ?_ (by assumption) | refine bl_set ?_ ?_ _ | exact Nat.le_refl _) | omega | (simp only [World.size_alloc, World.size_setCell, World.size_drew] at *; omega) | (dsimp only; omega) | (simp; done) | (simp; omega))⟩
      rw [hK2H.out] at h
      split at h <;> omega
end Go.Proofs.YtglcpphfmmnmkaaGreat
/- Small words: configurations in blocks and in rows. -/


namespace Go.Proofs.YtglcpphfmmnmkaaGreat
open Go.RowKit Go.Shelf

/-- a configuration in a block of its own -/
structure CfQ (w : World) (p : Nat) (v : Value) (a b : Int) : Prop where
  lt : p < w.heap.size
  c0 : w.cell? ⟨p, 0, none⟩ = some v
  c1 : w.cell? ⟨p, 1, none⟩ = some (.int .i64 a)
  c2 : w.cell? ⟨p, 2, none⟩ = some (.int .i64 b)
  f0 : w.frozen? ⟨p, 0, none⟩ = false
  f1 : w.frozen? ⟨p, 1, none⟩ = false
  f2 : w.frozen? ⟨p, 2, none⟩ = false
theorem CfQ.below {B p : Nat} {w w' : World} {a b : Int} {v : Value} (h : CfQ w p v a b) (hb : Below B w w') (hp : p < B) : CfQ w' p v a b :=
  ⟨Nat.lt_of_lt_of_le h.lt hb.size, (hb.cell (p := ⟨p, 0, none⟩) hp).trans h.c0, (hb.cell (p := ⟨p, 1, none⟩) hp).trans h.c1, (hb.cell (p := ⟨p, 2, none⟩) hp).trans h.c2, (hb.frozen (p := ⟨p, 0, none⟩) hp).trans h.f0, (hb.frozen (p := ⟨p, 1, none⟩) hp).trans h.f1, (hb.frozen (p := ⟨p, 2, none⟩) hp).trans h.f2⟩
theorem CfQ.new (w : World) (a b : Int) (v : Value) (t : TypeId) : CfQ (w.alloc (.cells #[v, .int .i64 a, .int .i64 b] t)) w.heap.size v a b :=
  ⟨by simp, by go_simp, by go_simp, by go_simp, by go_simp, by go_simp, by go_simp⟩
theorem CfQ.set0 {p : Nat} {w : World} {a b : Int} {v u : Value} (h : CfQ w p v a b) : CfQ (w.setCell ⟨p, 0, none⟩ u) p u a b := by
  obtain ⟨h1, h2, h3, h4, h5, h6, h7⟩ := h
  exact ⟨by simpa using h1, by go_simp, by go_simp, by go_simp, by go_simp, by go_simp, by go_simp⟩
theorem CfQ.set12 {p : Nat} {w : World} {a b a' b' : Int} {v : Value} (h : CfQ w p v a b) : CfQ ((w.setCell ⟨p, 2, none⟩ (.int .i64 b')).setCell ⟨p, 1, none⟩ (.int .i64 a')) p v a' b' := by
  obtain ⟨h1, h2, h3, h4, h5, h6, h7⟩ := h
  exact ⟨by simpa using h1, by go_simp, by go_simp, by go_simp, by go_simp, by go_simp, by go_simp⟩
/-- a configuration: where its tape lies, its head, its state -/
structure Cf where
  A : Option Addr
  n : Nat
  c : Nat
  hd : Int
  st : Int
/-- the cells of a row of configurations -/
def cfCells : List Cf → List Value
  | [] => []
  | b :: l => .slice b.A b.n b.c :: .int .i64 b.hd :: .int .i64 b.st :: cfCells l
theorem cfCells_snoc (l : List Cf) (b : Cf) : cfCells (l ++ [b]) = cfCells l ++ [.slice b.A b.n b.c, .int .i64 b.hd, .int .i64 b.st] := by
  induction l with
  | nil => rfl
  | cons a l ih => simp [cfCells, ih]
theorem cfCells_get : ∀ (bs : List Cf) (k : Nat) (e : Cf), bs[k]? = some e → (cfCells bs)[k * 3]? = some (.slice e.A e.n e.c) ∧ (cfCells bs)[k * 3 + 1]? = some (.int .i64 e.hd) ∧ (cfCells bs)[k * 3 + 2]? = some (.int .i64 e.st)
  | [], k, e, h => by simp at h
  | b :: bs, 0, e, h => by
    simp at h
    subst h
    simp [cfCells]
  | b :: bs, k + 1, e, h => by
    have := cfCells_get bs k e (by simpa using h)
    rw [show (k + 1) * 3 = k * 3 + 3 by omega]
    simpa [cfCells, Nat.add_assoc] using this
/-- the head of a configuration -/
def RHd (w : World) (b o : Nat) (e : Int) : Prop := ∃ A n c st, w.cell? ⟨b, o, none⟩ = some (.slice A n c) ∧ w.cell? ⟨b, o + 1, none⟩ = some (.int .i64 e) ∧ w.cell? ⟨b, o + 2, none⟩ = some (.int .i64 st)
theorem RHd.stable : Stable RHd := fun _ _ b o _ h hb hw => by
  obtain ⟨A, n, c, st, h0, h1, h2⟩ := h
  exact ⟨A, n, c, st, (hw.cell (p := ⟨b, o, none⟩) hb).trans h0, (hw.cell (p := ⟨b, o + 1, none⟩) hb).trans h1, (hw.cell (p := ⟨b, o + 2, none⟩) hb).trans h2⟩
theorem rdHd {W : World} {base : Nat} {T : TypeId} {A : Option Addr} {n c : Nat} {bs : List Cf} (h : W.ownsRow base T 3 (.slice A n c) n (cfCells bs)) (hn : n = bs.length) : RdSl 3 RHd W A n (bs.map Cf.hd) := by
  subst hn
  rcases h.2 with ⟨e, h0⟩ | ⟨g, cap, cur, e, hb, hh, hn, hm, hs, ht⟩
  · injection e with e1 e2 e3
    refine ⟨by simp, fun hp => ?_⟩
    omega
  · injection e with e1 e2 e3
    subst e1
    refine ⟨by simp, fun hp => ⟨g, 0, rfl, (Array.getElem?_eq_some_iff.1 hh).1, fun k hk => ?_⟩⟩
    have hk' : k < bs.length := by simpa using hk
    have hg := cfCells_get bs k _ (List.getElem?_eq_getElem hk')
    rw [← ht] at hg
    have hcell : ∀ j u, (cur.toList.take (bs.length * 3))[j]? = some u → W.cell? ⟨g, j, none⟩ = some u := fun j u hj => by
      rw [List.getElem?_take] at hj
      split at hj
      · simp only [World.cell?, hh]
        simpa using hj
      · cases hj
    rw [Nat.zero_add, List.getElem_map]
    exact ⟨_, _, _, _, hcell _ _ hg.1, hcell _ _ hg.2.1, hcell _ _ hg.2.2⟩
/-- what a row's reader returns -/
def RowRes (w : World) (r : Int) (e : Ending) (w' : World) : Prop :=
  ∃ A n c a b, e = .returned (.tuple #[.agg #[.slice A n c, .int .i64 a, .int .i64 b], .bool (decide (0 ≤ r))]) ∧ (0 ≤ r → a = r) ∧ Below w.heap.size w w'
theorem RowRes.yes {w w' : World} {r : Int} {e : Ending} (h : RowRes w r e w') (h0 : 0 ≤ r) : ∃ A n c b, e = .returned (.tuple #[.agg #[.slice A n c, .int .i64 r, .int .i64 b], .bool true]) ∧ Below w.heap.size w w' := by
  obtain ⟨A, n, c, a, b, rfl, ha, hb⟩ := h
  obtain rfl := ha h0
  rw [decide_eq_true h0]
  exact ⟨A, n, c, b, rfl, hb⟩
theorem RowRes.no {w w' : World} {r : Int} {e : Ending} (h : RowRes w r e w') (h0 : ¬ 0 ≤ r) : ∃ A n c a b, e = .returned (.tuple #[.agg #[.slice A n c, .int .i64 a, .int .i64 b], .bool false]) ∧ Below w.heap.size w w' := by
  obtain ⟨A, n, c, a, b, rfl, ha, hb⟩ := h
  rw [decide_eq_false h0]
  exact ⟨A, n, c, a, b, rfl, hb⟩
/-- a row of configurations of which the heads are known -/
def HdsRes (w : World) (r : List Int) (e : Ending) (w' : World) : Prop :=
  ∃ A c, e = .returned (.slice A r.length c) ∧ RdSl 3 RHd w' A r.length r ∧ Below w.heap.size w w'
def HdsCode (w : World) (r : List Int × Int) (e : Ending) (w' : World) : Prop :=
  ∃ A c, e = .returned (.tuple #[.slice A r.1.length c, .int .i64 r.2]) ∧ RdSl 3 RHd w' A r.1.length r.1 ∧ Below w.heap.size w w'
theorem HdsCode.of {w w' : World} {r : List Int × Int} {bs : List Int} {n : Nat} {c : Int} {A : Option Addr} {cap : Nat} (h : (bs, c) = r) (hn : n = bs.length) (hr : RdSl 3 RHd w' A n bs) (hb : Below w.heap.size w w') : HdsCode w r (.returned (.tuple #[.slice A n cap, .int .i64 c])) w' := by
  subst h hn
  exact ⟨A, cap, rfl, hr, hb⟩
theorem rdHd_nil (w : World) : RdSl 3 RHd w none 0 [] := ⟨rfl, fun h => absurd h (by omega)⟩
theorem infoCf : (Tryz.prog.info? 134).map (fun i => (i.zero, i.size, i.bytes)) = some (some (.agg #[.slice none 0 0, .int .i64 0, .int .i64 0]), 3, 40) := by kernel_rfl
/-- the names of glues are short -/
def Short (gs : List Gl) : Prop := ∀ (k : Nat) (e : Gl), gs[k]? = some e → e.name.size ≤ 1000000
theorem short_of {gs : List Gl} {ts : List Ti} {xs : List Pl} (h : validAsmB gs ts xs = true) : Short gs := by
  intro k e he
  unfold validAsmB validSetB hasFormB at h
  simp only [Bool.and_eq_true, decide_eq_true_eq] at h
  obtain ⟨⟨⟨h1, h2, h3⟩, hg, ht⟩, ⟨hf, h4⟩, htl⟩ := h
  have := allB_at hg (lt_of_get he)
  rw [okGl_eq he] at this
  simp only [Bool.and_eq_true, isNameB, decide_eq_true_eq] at this
  omega
theorem gluedS_size {gs : List Gl} {ts : List Ti} {ys : List Pl} (hg : Short gs) (x y : Int) (d : Nat) : (gluedS gs ts ys x y d).size ≤ 1000000 := by
  have h0 : ByteArray.empty.size ≤ 1000000 := by decide
  unfold gluedS nameI
  split
  · exact h0
  · split
    · exact h0
    · split
      · rename_i g he
        exact hg _ _ he
      · exact h0
theorem headR_code {gs : List Gl} {ts : List Ti} {xs : List Pl} {t : Int} {ys : List Pl} {wd : Int} : (headR gs ts xs t ys wd).2 = 0 ∨ ((headR gs ts xs t ys wd).1 = [] ∧ ((headR gs ts xs t ys wd).2 != 0) = true) := by
  unfold headR
  split
  · exact .inr ⟨rfl, rfl⟩
  · split
    · exact .inr ⟨rfl, rfl⟩
    · split
      · exact .inr ⟨rfl, rfl⟩
      · exact .inl rfl
end Go.Proofs.YtglcpphfmmnmkaaGreat
/- Walk: the configuration of a row, the program. -/




namespace Go.Proofs.YtglcpphfmmnmkaaGreat
open Go.RowKit Go.Shelf
attribute [local go_sem] BelowBy.cell BelowBy.cell_drew stillUpon givesUpon BelowBy.cell_drew2 BelowBy.cell_drew3

theorem cellOf_0 {s : ByteArray} (w : World) (hs : s.size ≤ 1000000) (hk : cellK s = 0) :
    Calls Tryz.prog 184 #[.string s] w fun e w' => ∃ st sy, e = .returned (.tuple #[.int .i64 st, .int .i64 sy, .bool false]) ∧ Below w.heap.size w w' := by
  refine (cellOf_any w hs).mono ?_
  rintro e w' ⟨st, sy, rfl, h1, h2, hb⟩
  rw [hk]
  exact ⟨st, sy, rfl, hb⟩
theorem cellOf_1 {s : ByteArray} (w : World) (hs : s.size ≤ 1000000) (hk : cellK s = 1) :
    Calls Tryz.prog 184 #[.string s] w fun e w' => ∃ sy, e = .returned (.tuple #[.int .i64 (-1), .int .i64 sy, .bool true]) ∧ Below w.heap.size w w' := by
  refine (cellOf_any w hs).mono ?_
  rintro e w' ⟨st, sy, rfl, h1, h2, hb⟩
  obtain rfl := h1 hk
  rw [hk]
  exact ⟨sy, rfl, hb⟩
theorem cellOf_2 {s : ByteArray} (w : World) (hs : s.size ≤ 1000000) (hk : cellK s = 2) :
    Calls Tryz.prog 184 #[.string s] w fun e w' => ∃ st sy, e = .returned (.tuple #[.int .i64 st, .int .i64 sy, .bool true]) ∧ 0 ≤ st ∧ Below w.heap.size w w' := by
  refine (cellOf_any w hs).mono ?_
  rintro e w' ⟨st, sy, rfl, h1, h2, hb⟩
  rw [hk]
  exact ⟨st, sy, rfl, h2 hk, hb⟩
set_option maxRecDepth 100000 in
set_option maxHeartbeats 4000000 in
theorem readRow_any {G T C : Option Addr} {n cg m ct k cc W : Nat} {gs : List Gl} {ts : List Ti} {ys : List Pl} {y : Int} {w : World} (h : SA w G n T m C k gs ts ys) (hV : Valid gs ts ys) (hNm : Short gs) (hW : W ≤ 12) :
    Calls Tryz.prog 162 #[.agg #[.slice G n cg, .slice T m ct], .agg #[.slice C k cc], .int .i64 y, .int .i64 (W : Int)] w (RowRes w (scanH gs ts ys y W)) := by
  obtain ⟨i0, hi, hz0, hz1, hz2⟩ := info_parts infoI
  
  have hS := Lib.hid h
  have hN := Lib.hid hNm
  clear h hNm
  go_enter Tryz.func162, Tryz.ntmps162
  go_wp2
  go_loopg [17] W (fun gk i wr => ∃ (x : Nat) (A2 : Option Addr) (c2 : Nat) (L : List Int) (st : Int), x + gk = W ∧ i = .int .i64 (x : Int) ∧ L.length = x ∧ Hid (¬ scanH gs ts ys y x = -2) ∧ Hid (CfQ wr (w.heap.size + 3) (.slice A2 x c2) (scanH gs ts ys y x) st) ∧ Hid (CfQ wr (w.heap.size + 2) (.slice none 0 0) 0 0) ∧ Hid (wr.ownsRow (w.heap.size + 4) 2 1 (.slice A2 x c2) x (L.map (Value.int .i64))) ∧ Hid (Below w.heap.size w wr) ∧ wr.cell? ⟨w.heap.size, 0, none⟩ = some (.slice G n cg) ∧ wr.cell? ⟨w.heap.size, 1, none⟩ = some (.slice T m ct) ∧ wr.cell? ⟨w.heap.size + 1, 0, none⟩ = some (.slice C k cc))
  case atStart => exact ⟨0, none, 0, [], 0, by omega, rfl, rfl, Lib.hid (show ¬ (-1 : Int) = -2 by decide), Lib.hid (by have := CfQ.new (((w.alloc (Obj.cells #[.slice G n cg, .slice T m ct] 43)).alloc (Obj.cells #[.slice C k cc] 37)).alloc (Obj.cells #[.slice none 0 0, .int .i64 0, .int .i64 0] 134)) (-1) 0 (.slice none 0 0) 134; simp only [World.size_alloc] at this; exact this), Lib.hid (by have := (CfQ.new ((w.alloc (Obj.cells #[.slice G n cg, .slice T m ct] 43)).alloc (Obj.cells #[.slice C k cc] 37)) 0 0 (.slice none 0 0) 134).below (bl_al (bl_refl _) (Obj.cells #[.slice none 0 0, .int .i64 (-1), .int .i64 0] 134)) (by simp); simp only [World.size_alloc] at this; exact this), Lib.hid (World.ownsRow_nil _ _ _ _), Lib.hid (by repeat (first | with_reducible (first | exact bl_refl _ | assumption | refine bl_al ?_ _ | refine bl_dr ?_ | refine bl_tr ?_ (by assumption) | refine bl_set ?_ ?_ _ | exact Nat.le_refl _) | omega | (simp only [World.size_alloc, World.size_setCell, World.size_drew] at *; omega) | (dsimp only; omega) | (simp; done) | (simp; omega))), by go_simp, by go_simp, by go_simp⟩
  case round =>
    obtain ⟨x, A2, c2, L, st, hx, rfl, hL, hsc, hq, hrq, hrow, hbw, x0, x1, x2⟩ := hrel
    have e3 := hq.out.lt
    have e0 : w.heap.size < wr.heap.size := by omega
    have e1 : w.heap.size + 1 < wr.heap.size := by omega
    have e2 : w.heap.size + 2 < wr.heap.size := by omega
    by_cases hxW : x < W
    · obtain ⟨s, hs⟩ : ∃ s, gluedS gs ts ys (x : Int) y 0 = s := ⟨_, rfl⟩
      have hsH := Lib.hid hs
      have hsz : s.size ≤ 1000000 := by rw [← hs]; exact gluedS_size hN.out _ _ _
      have hA1 := Lib.hid (hS.out.below hbw.out)
      have hce : cellAt gs ts ys (x : Int) y = cellK s := by unfold cellAt; rw [hs]
      have hceH := Lib.hid hce
      have hxW' : (x : Int) < (W : Int) := by omega
      clear hs hce
      rcases cellK_le s with hk | hk | hk
      · have hkH := Lib.hid hk
        have hres := Lib.hid (show scanH gs ts ys y W = -2 from scan_lt (scan_0 (hceH.out.trans hk)) (by omega))
        clear hk
        go_wp2_with (first
          | (go_at_call 185; refine (gluedName_any 0 rfl hA1.out hV (by decide) hsH.out).mono ?_; rintro e w2 ⟨rfl, hb2⟩; have hb2H := Lib.hid hb2; clear hb2)
          | (go_at_call 184; refine (cellOf_0 _ hsz hkH.out).mono ?_; rintro e w3 ⟨st', sy, rfl, hb3⟩; have hB3 := Lib.hid (hb2H.out.trans (hb3.mono hb2H.out.size)); have hq3 := hrq.out.below hB3.out e2; have r0 := hq3.c0; have r1 := hq3.c1; have r2 := hq3.c2; have r3 := hq3.f0; have r4 := hq3.f1; have r5 := hq3.f2; have r6 := hq3.lt; have s9 := hB3.out.size; clear hb3 hq3))
        refine bodyPost_ret (v := .tuple #[.agg #[.slice none 0 0, .int .i64 0, .int .i64 0], .bool false]) (by simp only [results, Tryz.results162]; go_simp) rfl ?_
        exact ⟨_, _, _, _, _, by rw [hres.out]; rfl, fun h => by rw [hres.out] at h; omega, by have h9 := hbw.out.trans (hB3.out.mono (show w.heap.size ≤ wr.heap.size by omega)); repeat (first | with_reducible (first | exact bl_refl _ | assumption | refine bl_al ?_ _ | refine bl_dr ?_ | refine bl_tr ?_ (by assumption) | refine bl_set ?_ ?_ _ | exact Nat.le_refl _) | omega | (simp only [World.size_alloc, World.size_setCell, World.size_drew] at *; omega) | (dsimp only; omega) | (simp; done) | (simp; omega))⟩
      · have hkH := Lib.hid hk
        have hn := Lib.hid (show scanH gs ts ys y (x + 1) = scanH gs ts ys y x from scan_1 (hceH.out.trans hk))
        clear hk
        obtain ⟨S, hS2⟩ : ∃ S, scanH gs ts ys y x = S := ⟨_, rfl⟩
        rw [hS2] at hn hq hsc
        clear hS2
        go_wp2_with (first
          | (go_at_call 185; refine (gluedName_any 0 rfl hA1.out hV (by decide) hsH.out).mono ?_; rintro e w2 ⟨rfl, hb2⟩; have hb2H := Lib.hid hb2; clear hb2)
          | (go_at_call 184; refine (cellOf_1 _ hsz hkH.out).mono ?_; rintro e w3 ⟨sy, rfl, hb3⟩; have hB3 := Lib.hid (hb2H.out.trans (hb3.mono hb2H.out.size)); have s9 := hB3.out.size; have hq3 := hq.out.below hB3.out e3; have hq3H := Lib.hid hq3; have hrq3 := Lib.hid (hrq.out.below hB3.out e2); have hrow3 := Lib.hid (ownsRow_below hrow.out hB3.out); have q0 := hq3.c0; have q1 := hq3.c1; have q2 := hq3.c2; have qf0 := hq3.f0; have qf1 := hq3.f1; have qf2 := hq3.f2; have q9 := hq3.lt; clear hb3 hq3; have hrowS := hrow3; have hqS := hq3H; have hB3s := hB3.out.mono (show w.heap.size ≤ wr.heap.size by omega); have z0 := (hB3.out.cell (p := ⟨w.heap.size, 0, none⟩) e0).trans x0; have z1 := (hB3.out.cell (p := ⟨w.heap.size, 1, none⟩) e0).trans x1; have z2 := (hB3.out.cell (p := ⟨w.heap.size + 1, 0, none⟩) e1).trans x2)
          | (at_builtin; refine wpList_append_own _ rfl _ _ 70 rfl (w.heap.size + 4) 2 i0 (.int .i64 0) 1 8 Tryz.underlying70 hi hz0 hz1 hz2 rfl (by decide) _ x _ rfl (hrowS.out.alloc _) ⟨w3.heap.size, 0, none⟩ 1 1 [.int .i64 sy] rfl rfl (by have := cell_one_new (w3) (.int .i64 sy) 2; simpa using this) (fun x hx => by simp at hx; subst hx; rfl) (by unfold maxLen; omega) (by omega) (by simp; omega) ?_; go_loud (intro v' w4 hown' hgrow _; obtain ⟨A5, c5, rfl⟩ := ownsRow_form hown'; have hownH := Lib.hid hown'; have hb4 := Lib.hid (show Below (w.heap.size + 4) (w3) w4 from below_app (by (try simp); omega) (fun g e => (hrow3.out.lt g e).1) hgrow); have hq4 := hqS.out.below hb4.out (by omega); have m0 := hq4.c0; have mf := hq4.f0; have m9 := hq4.lt; have hq4H := Lib.hid hq4; clear hown' hgrow hq4)))
        have k0 := (hb4.out.cell (p := ⟨w.heap.size, 0, none⟩) (by first | (simp; done) | (simp; omega))).trans z0
        have k1 := (hb4.out.cell (p := ⟨w.heap.size, 1, none⟩) (by first | (simp; done) | (simp; omega))).trans z1
        have k2 := (hb4.out.cell (p := ⟨w.heap.size + 1, 0, none⟩) (by first | (simp; done) | (simp; omega))).trans z2
        go_wp2
        go_roundg (W - (x + 1))
        case measure => omega
        case rel => exact ⟨x + 1, A5, c5, L ++ [sy], st, by omega, by go_num, by simp [hL], Lib.hid (by rw [hn.out]; exact hsc.out), Lib.hid (by rw [hn.out]; exact hq4H.out.set0), Lib.hid (((hrq3.out).below hb4.out (by omega)).below (B := w.heap.size + 3) (Below.setCell (Below.refl _ _) (p := ⟨w.heap.size + 3, 0, none⟩) (Nat.le_refl _) _) (by omega)), Lib.hid (by rw [List.map_append]; exact ownsRow_setCell_below hownH.out (Nat.lt_succ_self _) _), Lib.hid ((hbw.out.trans (((hB3.out.mono (show w.heap.size ≤ wr.heap.size by omega)).trans (hb4.out.mono (show w.heap.size ≤ w.heap.size + 4 by omega))).mono (by omega))).setCell (p := ⟨w.heap.size + 3, 0, none⟩) (by show w.heap.size ≤ w.heap.size + 3; omega) _), by go_simp, by go_simp, by go_simp⟩
      · have hkH := Lib.hid hk
        by_cases hS0 : scanH gs ts ys y x = -1
        · have hn := Lib.hid (show scanH gs ts ys y (x + 1) = (x : Int) from scan_2 (hceH.out.trans hk) hS0)
          rw [hS0] at hq hsc
          clear hk hS0
          go_wp2_with (first
            | (go_at_call 185; refine (gluedName_any 0 rfl hA1.out hV (by decide) hsH.out).mono ?_; rintro e w2 ⟨rfl, hb2⟩; have hb2H := Lib.hid hb2; clear hb2)
            | (go_at_call 184; refine (cellOf_2 _ hsz hkH.out).mono ?_; rintro e w3 ⟨st9, sy, rfl, hst9, hb3⟩; have hB3 := Lib.hid (hb2H.out.trans (hb3.mono hb2H.out.size)); have s9 := hB3.out.size; have hq3 := hq.out.below hB3.out e3; have hq3H := Lib.hid hq3; have hrq3 := Lib.hid (hrq.out.below hB3.out e2); have hrow3 := Lib.hid (ownsRow_below hrow.out hB3.out); have q0 := hq3.c0; have q1 := hq3.c1; have q2 := hq3.c2; have qf0 := hq3.f0; have qf1 := hq3.f1; have qf2 := hq3.f2; have q9 := hq3.lt; clear hb3 hq3; have hrowS := Lib.hid (ownsRow_setCell_below (ownsRow_setCell_below hrow3.out (a := ⟨w.heap.size + 3, 2, none⟩) (show w.heap.size + 3 < w.heap.size + 4 by omega) (.int .i64 st9)) (a := ⟨w.heap.size + 3, 1, none⟩) (show w.heap.size + 3 < w.heap.size + 4 by omega) (.int .i64 (x : Int))); have hqS := Lib.hid (hq3H.out.set12 (a' := (x : Int)) (b' := st9)); have z0 := (hB3.out.cell (p := ⟨w.heap.size, 0, none⟩) e0).trans x0; have z1 := (hB3.out.cell (p := ⟨w.heap.size, 1, none⟩) e0).trans x1; have z2 := (hB3.out.cell (p := ⟨w.heap.size + 1, 0, none⟩) e1).trans x2)
            | (at_builtin; refine wpList_append_own _ rfl _ _ 70 rfl (w.heap.size + 4) 2 i0 (.int .i64 0) 1 8 Tryz.underlying70 hi hz0 hz1 hz2 rfl (by decide) _ x _ rfl (hrowS.out.alloc _) ⟨w3.heap.size, 0, none⟩ 1 1 [.int .i64 sy] rfl rfl (by have := cell_one_new ((w3.setCell ⟨w.heap.size + 3, 2, none⟩ (.int .i64 st9)).setCell ⟨w.heap.size + 3, 1, none⟩ (.int .i64 (x : Int))) (.int .i64 sy) 2; simpa using this) (fun x hx => by simp at hx; subst hx; rfl) (by unfold maxLen; omega) (by omega) (by simp; omega) ?_; go_loud (intro v' w4 hown' hgrow _; obtain ⟨A5, c5, rfl⟩ := ownsRow_form hown'; have hownH := Lib.hid hown'; have hb4 := Lib.hid (show Below (w.heap.size + 4) ((w3.setCell ⟨w.heap.size + 3, 2, none⟩ (.int .i64 st9)).setCell ⟨w.heap.size + 3, 1, none⟩ (.int .i64 (x : Int))) w4 from below_app (by (try simp); omega) (fun g e => (hrow3.out.lt g e).1) hgrow); have hq4 := hqS.out.below hb4.out (by omega); have m0 := hq4.c0; have mf := hq4.f0; have m9 := hq4.lt; have hq4H := Lib.hid hq4; clear hown' hgrow hq4)))
          have k0 := (hb4.out.cell (p := ⟨w.heap.size, 0, none⟩) (by first | (simp; done) | (simp; omega))).trans (show _ = some (Value.slice G n cg) by go_simp)
          have k1 := (hb4.out.cell (p := ⟨w.heap.size, 1, none⟩) (by first | (simp; done) | (simp; omega))).trans (show _ = some (Value.slice T m ct) by go_simp)
          have k2 := (hb4.out.cell (p := ⟨w.heap.size + 1, 0, none⟩) (by first | (simp; done) | (simp; omega))).trans (show _ = some (Value.slice C k cc) by go_simp)
          go_wp2
          go_roundg (W - (x + 1))
          case measure => omega
          case rel => exact ⟨x + 1, A5, c5, L ++ [sy], st9, by omega, by go_num, by simp [hL], Lib.hid (by rw [hn.out]; omega), Lib.hid (by rw [hn.out]; exact hq4H.out.set0), Lib.hid (((hrq3.out.below (B := w.heap.size + 3) (Below.setCell (Below.setCell (Below.refl _ _) (p := ⟨w.heap.size + 3, 2, none⟩) (Nat.le_refl _) (.int .i64 st9)) (p := ⟨w.heap.size + 3, 1, none⟩) (Nat.le_refl _) (.int .i64 (x : Int))) (by omega)).below hb4.out (by omega)).below (B := w.heap.size + 3) (Below.setCell (Below.refl _ _) (p := ⟨w.heap.size + 3, 0, none⟩) (Nat.le_refl _) _) (by omega)), Lib.hid (by rw [List.map_append]; exact ownsRow_setCell_below hownH.out (Nat.lt_succ_self _) _), Lib.hid ((hbw.out.trans (((hB3.out.mono (show w.heap.size ≤ wr.heap.size by omega)).trans (Below.setCell (Below.setCell (Below.refl _ _) (p := ⟨w.heap.size + 3, 2, none⟩) (show w.heap.size ≤ w.heap.size + 3 by omega) (.int .i64 st9)) (p := ⟨w.heap.size + 3, 1, none⟩) (show w.heap.size ≤ w.heap.size + 3 by omega) (.int .i64 (x : Int)))).trans (hb4.out.mono (show w.heap.size ≤ w.heap.size + 4 by omega)))).setCell (p := ⟨w.heap.size + 3, 0, none⟩) (by show w.heap.size ≤ w.heap.size + 3; omega) _), by go_simp, by go_simp, by go_simp⟩
        · have hres := Lib.hid (show scanH gs ts ys y W = -2 from scan_lt (scan_3 (hceH.out.trans hk) hS0) (by omega))
          have hS1 : 0 ≤ scanH gs ts ys y x := by
            rcases scan_rng gs ts ys y x with h | h | ⟨k, h, _⟩
            · exact (hsc.out h).elim
            · exact (hS0 h).elim
            · omega
          obtain ⟨S, hS2⟩ : ∃ S, scanH gs ts ys y x = S := ⟨_, rfl⟩
          rw [hS2] at hq hS1
          clear hk hS0 hS2
          go_wp2_with (first
            | (go_at_call 185; refine (gluedName_any 0 rfl hA1.out hV (by decide) hsH.out).mono ?_; rintro e w2 ⟨rfl, hb2⟩; have hb2H := Lib.hid hb2; clear hb2)
            | (go_at_call 184; refine (cellOf_2 _ hsz hkH.out).mono ?_; rintro e w3 ⟨st9, sy, rfl, hst9, hb3⟩; have hB3 := Lib.hid (hb2H.out.trans (hb3.mono hb2H.out.size)); have s9 := hB3.out.size; have hq3 := hq.out.below hB3.out e3; have hq3H := Lib.hid hq3; have hrq3 := Lib.hid (hrq.out.below hB3.out e2); have hrow3 := Lib.hid (ownsRow_below hrow.out hB3.out); have q0 := hq3.c0; have q1 := hq3.c1; have q2 := hq3.c2; have qf0 := hq3.f0; have qf1 := hq3.f1; have qf2 := hq3.f2; have q9 := hq3.lt; clear hb3 hq3; have r0 := hrq3.out.c0; have r1 := hrq3.out.c1; have r2 := hrq3.out.c2; have r3 := hrq3.out.f0; have r4 := hrq3.out.f1; have r5 := hrq3.out.f2; have r6 := hrq3.out.lt))
          refine bodyPost_ret (v := .tuple #[.agg #[.slice none 0 0, .int .i64 0, .int .i64 0], .bool false]) (by simp only [results, Tryz.results162]; go_simp) rfl ?_
          exact ⟨_, _, _, _, _, by rw [hres.out]; rfl, fun h => by rw [hres.out] at h; omega, by have h9 := hbw.out.trans (hB3.out.mono (show w.heap.size ≤ wr.heap.size by omega)); repeat (first | with_reducible (first | exact bl_refl _ | assumption | refine bl_al ?_ _ | refine bl_dr ?_ | refine bl_tr ?_ (by assumption) | refine bl_set ?_ ?_ _ | exact Nat.le_refl _) | omega | (simp only [World.size_alloc, World.size_setCell, World.size_drew] at *; omega) | (dsimp only; omega) | (simp; done) | (simp; omega))⟩
    · obtain rfl : x = W := by omega
      have q0 := hq.out.c0
      have q1 := hq.out.c1
      have q2 := hq.out.c2
      have r0 := hrq.out.c0
      have r1 := hrq.out.c1
      have r2 := hrq.out.c2
      have r3 := hrq.out.f0
      have r4 := hrq.out.f1
      have r5 := hrq.out.f2
      obtain ⟨S, hS2⟩ : ∃ S, scanH gs ts ys y x = S := ⟨_, rfl⟩
      rw [hS2] at q1
      have hS2H := Lib.hid hS2
      clear hS2
      go_wp2
      go_region
      go_wp2
      refine bodyPost_ret (v := .tuple #[.agg #[.slice A2 x c2, .int .i64 S, .int .i64 st], .bool (decide (0 ≤ S))]) (by simp only [results, Tryz.results162]; go_simp) rfl ?_
      exact ⟨A2, x, c2, S, st, by rw [hS2H.out], fun _ => hS2H.out.symm, by have h9 := hbw.out; repeat (first | with_reducible (first | exact bl_refl _ | assumption | refine bl_al ?_ _ | refine bl_dr ?_ | refine bl_tr ?_ (by assumption) | refine bl_set ?_ ?_ _ | exact Nat.le_refl _) | omega | (simp only [World.size_alloc, World.size_setCell, World.size_drew] at *; omega) | (dsimp only; omega) | (simp; done) | (simp; omega))⟩
end Go.Proofs.YtglcpphfmmnmkaaGreat
/- Walk: HeadPath, the program. -/


namespace Go.Proofs.YtglcpphfmmnmkaaGreat
open Go.RowKit Go.Shelf
attribute [local go_sem] BelowBy.cell BelowBy.cell_drew stillUpon givesUpon BelowBy.cell_drew2 BelowBy.cell_drew3

set_option maxRecDepth 100000 in
set_option maxHeartbeats 4000000 in
theorem readRows_any {G T C : Option Addr} {n cg m ct k cc W : Nat} {gs : List Gl} {ts : List Ti} {ys : List Pl} {w : World} (h : SA w G n T m C k gs ts ys) (hV : Valid gs ts ys) (hNm : Short gs) (hW : W ≤ 12) (hW1 : 1 ≤ W) :
    Calls Tryz.prog 126 #[.agg #[.slice G n cg, .slice T m ct], .agg #[.slice C k cc], .int .i64 (W : Int)] w (HdsRes w (headsL gs ts ys W (okN gs ts ys W 61))) := by
  obtain ⟨i0, hi, hz0, hz1, hz2⟩ := info_parts infoCf
  
  have hS := Lib.hid h
  have hN := Lib.hid hNm
  clear h hNm
  go_enter Tryz.func126, Tryz.ntmps126
  go_wp2
  go_loopg [7] 62 (fun gk i wr => ∃ (y : Nat) (A2 : Option Addr) (c2 : Nat) (L : List Cf), y + gk = 62 ∧ i = .slice A2 y c2 ∧ L.length = y ∧ Hid (L.map Cf.hd = headsL gs ts ys W y) ∧ Hid (∀ y' : Nat, y' < y → 0 ≤ scanH gs ts ys (y' : Int) W) ∧ Hid (wr.ownsRow (w.heap.size + 2) 134 3 (.slice A2 y c2) y (cfCells L)) ∧ Hid (Below w.heap.size w wr) ∧ wr.cell? ⟨w.heap.size, 0, none⟩ = some (.slice G n cg) ∧ wr.cell? ⟨w.heap.size, 1, none⟩ = some (.slice T m ct) ∧ wr.cell? ⟨w.heap.size + 1, 0, none⟩ = some (.slice C k cc) ∧ w.heap.size + 2 ≤ wr.heap.size)
  case atStart => exact ⟨0, none, 0, [], by omega, rfl, rfl, Lib.hid rfl, Lib.hid (fun y' hy' => by omega), Lib.hid (World.ownsRow_nil _ _ _ _), Lib.hid (by repeat (first | with_reducible (first | exact bl_refl _ | assumption | refine bl_al ?_ _ | refine bl_dr ?_ | refine bl_tr ?_ (by assumption) | refine bl_set ?_ ?_ _ | exact Nat.le_refl _) | omega | (simp only [World.size_alloc, World.size_setCell, World.size_drew] at *; omega) | (dsimp only; omega) | (simp; done) | (simp; omega))), by go_simp, by go_simp, by go_simp, by simp⟩
  case round =>
    obtain ⟨y, A2, c2, L, hy, rfl, hL, hmap, hok, hrow, hbw, x0, x1, x2, hsz⟩ := hrel
    have hy61 := rows_stop hV hW1 hok.out
    have e0 : w.heap.size < wr.heap.size := by omega
    have e1 : w.heap.size + 1 < wr.heap.size := by omega
    have hA1 := Lib.hid (hS.out.below hbw.out)
    by_cases hy0 : 0 ≤ scanH gs ts ys (y : Int) W
    · obtain ⟨sH, hsH⟩ : ∃ sH, scanH gs ts ys (y : Int) W = sH := ⟨_, rfl⟩
      have hsHH := Lib.hid hsH
      have hn := Lib.hid (show headsL gs ts ys W (y + 1) = headsL gs ts ys W y ++ [sH] by rw [← hsH]; rfl)
      have hsH0 : 0 ≤ sH := by rw [← hsH]; exact hy0
      go_wp2_with (first
        | (go_at_call 162; refine (readRow_any hA1.out hV hN.out hW).mono ?_; rw [hsHH.out]; intro e w2 hrr; obtain ⟨AV, nV, cV, b, rfl, hb2⟩ := RowRes.yes hrr hsH0; have hb2H := Lib.hid hb2; have s2 := hb2.size; clear hb2 hrr)
        | (at_builtin; go_loud (refine wpList_append_own _ rfl _ _ 130 rfl (w.heap.size + 2) 134 i0 (.agg #[.slice none 0 0, .int .i64 0, .int .i64 0]) 3 40 Tryz.underlying130 hi hz0 hz1 hz2 rfl (by decide) _ y _ rfl (((ownsRow_below hrow.out hb2H.out).alloc _).alloc _) ⟨w2.heap.size + 1, 0, none⟩ 1 1 [.slice AV nV cV, .int .i64 sH, .int .i64 b] rfl rfl (by have := cell_three_new (w2.alloc (Obj.cells #[.slice AV nV cV, .int .i64 sH, .int .i64 b] 134)) (.slice AV nV cV) (.int .i64 sH) (.int .i64 b) 134; simpa using this) (fun x hx => by simp at hx; rcases hx with rfl | rfl | rfl <;> rfl) (by unfold maxLen; omega) (by omega) (by simp; omega) ?_; intro v' w4 hown' hgrow _; obtain ⟨A5, c5, rfl⟩ := ownsRow_form hown'; have hownH := Lib.hid hown'; have hb4 := Lib.hid (show Below (w.heap.size + 2) (w2.alloc (Obj.cells #[.slice AV nV cV, .int .i64 sH, .int .i64 b] 134)) w4 from below_app (by (try simp); omega) (fun g e => (hrow.out.lt g e).1) hgrow); clear hown' hgrow)))
      have hB2 := Lib.hid (hb2H.out.trans (bl_al (bl_refl _) (Obj.cells #[.slice AV nV cV, .int .i64 sH, .int .i64 b] 134) |>.mono s2))
      have k0 := (hb4.out.cell (p := ⟨w.heap.size, 0, none⟩) (by simp)).trans ((hB2.out.cell (p := ⟨w.heap.size, 0, none⟩) e0).trans x0)
      have k1 := (hb4.out.cell (p := ⟨w.heap.size, 1, none⟩) (by simp)).trans ((hB2.out.cell (p := ⟨w.heap.size, 1, none⟩) e0).trans x1)
      have k2 := (hb4.out.cell (p := ⟨w.heap.size + 1, 0, none⟩) (by simp)).trans ((hB2.out.cell (p := ⟨w.heap.size + 1, 0, none⟩) e1).trans x2)
      have s4 := hb4.out.size
      simp only [World.size_alloc] at s4
      go_wp2
      go_roundg (62 - (y + 1))
      case measure => omega
      case rel => exact ⟨y + 1, A5, c5, L ++ [⟨AV, nV, cV, sH, b⟩], by omega, rfl, by simp [hL], Lib.hid (by rw [hn.out, List.map_append, hmap.out]; rfl), Lib.hid (fun y' hy' => by
          rcases Nat.lt_succ_iff_lt_or_eq.1 hy' with h | rfl
          · exact hok.out y' h
          · exact hy0), Lib.hid (by rw [cfCells_snoc]; exact hownH.out), Lib.hid (hbw.out.trans ((hB2.out.mono (by omega)).trans (hb4.out.mono (by omega)))), k0, k1, k2, by omega⟩
    · have hyd := decide_eq_false hy0
      have hN2 := Lib.hid (okN_is hV hW1 hok.out (by omega))
      have hll := Lib.hid (headsL_len gs ts ys W y)
      go_wp2_with (go_at_call 162; refine (readRow_any hA1.out hV hN.out hW).mono ?_; intro e w2 hrr; obtain ⟨AV, nV, cV, a, b, rfl, hb2⟩ := RowRes.no hrr hy0; have hb2H := Lib.hid hb2; clear hb2 hrr)
      go_ret
      exact ⟨A2, c2, by rw [hN2.out, hll.out]; first | done | rfl, by rw [hN2.out, hll.out, ← hmap.out]; exact (rdHd hrow.out hL.symm).below RHd.stable (bl_al hb2H.out _), by have h9 := hbw.out.trans (hb2H.out.mono (show w.heap.size ≤ wr.heap.size by omega)); repeat (first | with_reducible (first | exact bl_refl _ | assumption | refine bl_al ?_ _ | refine bl_dr ?_ | refine bl_tr ?_ (by assumption) | refine bl_set ?_ ?_ _ | exact Nat.le_refl _) | omega | (simp only [World.size_alloc, World.size_setCell, World.size_drew] at *; omega) | (dsimp only; omega) | (simp; done) | (simp; omega))⟩
set_option maxRecDepth 100000 in
set_option maxHeartbeats 4000000 in
theorem DecodeMachine_any (G T A C : Option Addr) (n cg m ct q ca k cc : Nat) (gs : List Gl) (ts : List Ti) (xs ys : List Pl) (t wd : Int) (w : World) (h : SA w G n T m A q gs ts xs) (h2 : SA w G n T m C k gs ts ys) :
    Calls Tryz.prog 78 #[.agg #[.slice G n cg, .slice T m ct, .slice A q ca, .int .i64 t], .agg #[.slice C k cc], .int .i64 wd] w (HdsCode w (headR gs ts xs t ys wd)) := by
  
  have hS := Lib.hid h
  have hA := Lib.hid h2
  clear h h2
  cases hg : growB gs ts xs t ys
  · have hgH := Lib.hid hg
    clear hg
    go_enter Tryz.func78, Tryz.ntmps78
    go_wp2_with (go_at_call 104; refine (growthCode_at (hS.out.below (by repeat (first | with_reducible (first | exact bl_refl _ | assumption | refine bl_al ?_ _ | refine bl_dr ?_ | refine bl_tr ?_ (by assumption) | refine bl_set ?_ ?_ _ | exact Nat.le_refl _) | omega | (simp only [World.size_alloc, World.size_setCell, World.size_drew] at *; omega) | (dsimp only; omega) | (simp; done) | (simp; omega)))) (hA.out.below (by repeat (first | with_reducible (first | exact bl_refl _ | assumption | refine bl_al ?_ _ | refine bl_dr ?_ | refine bl_tr ?_ (by assumption) | refine bl_set ?_ ?_ _ | exact Nat.le_refl _) | omega | (simp only [World.size_alloc, World.size_setCell, World.size_drew] at *; omega) | (dsimp only; omega) | (simp; done) | (simp; omega)))) hgH.out).mono ?_; simp only [codeB_false]; rintro e w1 ⟨rfl, hb1⟩)
    go_ret2
    exact HdsCode.of (headR_no hgH.out) rfl (rdHd_nil _) (by repeat (first | with_reducible (first | exact bl_refl _ | assumption | refine bl_al ?_ _ | refine bl_dr ?_ | refine bl_tr ?_ (by assumption) | refine bl_set ?_ ?_ _ | exact Nat.le_refl _) | omega | (simp only [World.size_alloc, World.size_setCell, World.size_drew] at *; omega) | (dsimp only; omega) | (simp; done) | (simp; omega)))
  · have hgH := Lib.hid hg
    have hV := valid_of (growB_true hg).2
    have hNm := short_of (growB_true hg).2
    clear hg
    cases hw : inB wd 1 12
    · have hwH := Lib.hid hw
      have hr := Lib.hid (headR_range hgH.out hw)
      clear hw
      go_enter Tryz.func78, Tryz.ntmps78
      go_wp2_with (first
        | (go_at_call 104; refine (growthCode_at (hS.out.below (by repeat (first | with_reducible (first | exact bl_refl _ | assumption | refine bl_al ?_ _ | refine bl_dr ?_ | refine bl_tr ?_ (by assumption) | refine bl_set ?_ ?_ _ | exact Nat.le_refl _) | omega | (simp only [World.size_alloc, World.size_setCell, World.size_drew] at *; omega) | (dsimp only; omega) | (simp; done) | (simp; omega)))) (hA.out.below (by repeat (first | with_reducible (first | exact bl_refl _ | assumption | refine bl_al ?_ _ | refine bl_dr ?_ | refine bl_tr ?_ (by assumption) | refine bl_set ?_ ?_ _ | exact Nat.le_refl _) | omega | (simp only [World.size_alloc, World.size_setCell, World.size_drew] at *; omega) | (dsimp only; omega) | (simp; done) | (simp; omega)))) hgH.out).mono ?_; simp only [codeB_true]; rintro e w1 ⟨rfl, hb1⟩)
        | (go_at_call 125; refine (within_any _ _ _ _).mono ?_; rw [hwH.out]; rintro e _ ⟨rfl, rfl⟩))
      go_ret2
      exact HdsCode.of hr.out rfl (rdHd_nil _) (by repeat (first | with_reducible (first | exact bl_refl _ | assumption | refine bl_al ?_ _ | refine bl_dr ?_ | refine bl_tr ?_ (by assumption) | refine bl_set ?_ ?_ _ | exact Nat.le_refl _) | omega | (simp only [World.size_alloc, World.size_setCell, World.size_drew] at *; omega) | (dsimp only; omega) | (simp; done) | (simp; omega)))
    · have hwH := Lib.hid hw
      obtain ⟨W, rfl, hW1, hW2⟩ := inB_nat hw (by decide)
      obtain ⟨N, hN⟩ : ∃ N, okN gs ts ys W 61 = N := ⟨_, rfl⟩
      have hNH := Lib.hid hN
      have hNl := Lib.hid (headsL_len gs ts ys W N)
      by_cases hN0 : N = 0
      · have hres := Lib.hid (headR_none (W := W) hgH.out hw (hN.trans hN0))
        have hNd : ((N : Int) == 0) = true := by simp; omega
        clear hw hN
        go_enter Tryz.func78, Tryz.ntmps78
        go_wp2_with (first
          | (go_at_call 104; refine (growthCode_at (hS.out.below (by repeat (first | with_reducible (first | exact bl_refl _ | assumption | refine bl_al ?_ _ | refine bl_dr ?_ | refine bl_tr ?_ (by assumption) | refine bl_set ?_ ?_ _ | exact Nat.le_refl _) | omega | (simp only [World.size_alloc, World.size_setCell, World.size_drew] at *; omega) | (dsimp only; omega) | (simp; done) | (simp; omega)))) (hA.out.below (by repeat (first | with_reducible (first | exact bl_refl _ | assumption | refine bl_al ?_ _ | refine bl_dr ?_ | refine bl_tr ?_ (by assumption) | refine bl_set ?_ ?_ _ | exact Nat.le_refl _) | omega | (simp only [World.size_alloc, World.size_setCell, World.size_drew] at *; omega) | (dsimp only; omega) | (simp; done) | (simp; omega)))) hgH.out).mono ?_; simp only [codeB_true]; rintro e w1 ⟨rfl, hb1⟩; obtain ⟨chb1, fhb1, shb1, thb1⟩ := bcell hb1; (have b0 := shb1 w.heap.size (by go_simp)); (have b1 := shb1 (w.heap.size + 1) (by go_simp)))
          | (go_at_call 125; refine (within_any _ _ _ _).mono ?_; rw [hwH.out]; rintro e _ ⟨rfl, rfl⟩)
          | (go_at_call 126; refine (readRows_any (hA.out.below (by repeat (first | with_reducible (first | exact bl_refl _ | assumption | refine bl_al ?_ _ | refine bl_dr ?_ | refine bl_tr ?_ (by assumption) | refine bl_set ?_ ?_ _ | exact Nat.le_refl _) | omega | (simp only [World.size_alloc, World.size_setCell, World.size_drew] at *; omega) | (dsimp only; omega) | (simp; done) | (simp; omega)))) hV hNm (by omega) (by omega)).mono ?_; rw [hNH.out]; rintro e w2 ⟨A2, c2, rfl, hrd, hb2⟩; rw [hNl.out]; clear hrd))
        go_ret2
        exact HdsCode.of hres.out rfl (rdHd_nil _) (by repeat (first | with_reducible (first | exact bl_refl _ | assumption | refine bl_al ?_ _ | refine bl_dr ?_ | refine bl_tr ?_ (by assumption) | refine bl_set ?_ ?_ _ | exact Nat.le_refl _) | omega | (simp only [World.size_alloc, World.size_setCell, World.size_drew] at *; omega) | (dsimp only; omega) | (simp; done) | (simp; omega)))
      · have hres := Lib.hid (headR_yes (W := W) hgH.out hw hN hN0)
        have hNd : ((N : Int) == 0) = false := by simp; omega
        clear hw hN
        go_enter Tryz.func78, Tryz.ntmps78
        go_wp2_with (first
          | (go_at_call 104; refine (growthCode_at (hS.out.below (by repeat (first | with_reducible (first | exact bl_refl _ | assumption | refine bl_al ?_ _ | refine bl_dr ?_ | refine bl_tr ?_ (by assumption) | refine bl_set ?_ ?_ _ | exact Nat.le_refl _) | omega | (simp only [World.size_alloc, World.size_setCell, World.size_drew] at *; omega) | (dsimp only; omega) | (simp; done) | (simp; omega)))) (hA.out.below (by repeat (first | with_reducible (first | exact bl_refl _ | assumption | refine bl_al ?_ _ | refine bl_dr ?_ | refine bl_tr ?_ (by assumption) | refine bl_set ?_ ?_ _ | exact Nat.le_refl _) | omega | (simp only [World.size_alloc, World.size_setCell, World.size_drew] at *; omega) | (dsimp only; omega) | (simp; done) | (simp; omega)))) hgH.out).mono ?_; simp only [codeB_true]; rintro e w1 ⟨rfl, hb1⟩; obtain ⟨chb1, fhb1, shb1, thb1⟩ := bcell hb1; (have b0 := shb1 w.heap.size (by go_simp)); (have b1 := shb1 (w.heap.size + 1) (by go_simp)))
          | (go_at_call 125; refine (within_any _ _ _ _).mono ?_; rw [hwH.out]; rintro e _ ⟨rfl, rfl⟩)
          | (go_at_call 126; refine (readRows_any (hA.out.below (by repeat (first | with_reducible (first | exact bl_refl _ | assumption | refine bl_al ?_ _ | refine bl_dr ?_ | refine bl_tr ?_ (by assumption) | refine bl_set ?_ ?_ _ | exact Nat.le_refl _) | omega | (simp only [World.size_alloc, World.size_setCell, World.size_drew] at *; omega) | (dsimp only; omega) | (simp; done) | (simp; omega)))) hV hNm (by omega) (by omega)).mono ?_; rw [hNH.out]; rintro e w2 ⟨A2, c2, rfl, hrd, hb2⟩; rw [hNl.out] at hrd; rw [hNl.out]; have hrdH := Lib.hid hrd; clear hrd))
        go_ret2
        exact HdsCode.of hres.out hNl.out.symm hrdH.out (by repeat (first | with_reducible (first | exact bl_refl _ | assumption | refine bl_al ?_ _ | refine bl_dr ?_ | refine bl_tr ?_ (by assumption) | refine bl_set ?_ ?_ _ | exact Nat.le_refl _) | omega | (simp only [World.size_alloc, World.size_setCell, World.size_drew] at *; omega) | (dsimp only; omega) | (simp; done) | (simp; omega)))
set_option maxRecDepth 100000 in
set_option maxHeartbeats 4000000 in
theorem HeadPath_any (G T A C : Option Addr) (n cg m ct q ca k cc : Nat) (gs : List Gl) (ts : List Ti) (xs ys : List Pl) (t wd : Int) (w : World) (h : SA w G n T m A q gs ts xs) (h2 : SA w G n T m C k gs ts ys) :
    Calls Tryz.prog 31 #[.agg #[.slice G n cg, .slice T m ct, .slice A q ca, .int .i64 t], .agg #[.slice C k cc], .int .i64 wd] w (IntsRes w (headR gs ts xs t ys wd)) := by
  obtain ⟨i0, hi, hz0, hz1, hz2⟩ := info_parts infoI
  
  have hS := Lib.hid h
  have hA := Lib.hid h2
  have hRl := headR_len gs ts xs t ys wd
  clear h h2
  have hc := headR_code (gs := gs) (ts := ts) (xs := xs) (t := t) (ys := ys) (wd := wd)
  obtain ⟨r, hr⟩ : ∃ r, headR gs ts xs t ys wd = r := ⟨_, rfl⟩
  have hrH := Lib.hid hr
  rw [hr] at hc hRl
  rw [hr]
  obtain ⟨l, c⟩ := r
  clear hr
  have hRl : l.length ≤ 1073741824 := hRl
  rcases hc with hc | ⟨hc, hd⟩
  · obtain rfl : c = 0 := hc
    go_enter Tryz.func31, Tryz.ntmps31
    go_wp2_with (go_at_call 78; refine (DecodeMachine_any _ _ _ _ _ _ _ _ _ _ _ _ gs ts xs ys _ _ _ (hS.out.below (by repeat (first | with_reducible (first | exact bl_refl _ | assumption | refine bl_al ?_ _ | refine bl_dr ?_ | refine bl_tr ?_ (by assumption) | refine bl_set ?_ ?_ _ | exact Nat.le_refl _) | omega | (simp only [World.size_alloc, World.size_setCell, World.size_drew] at *; omega) | (dsimp only; omega) | (simp; done) | (simp; omega)))) (hA.out.below (by repeat (first | with_reducible (first | exact bl_refl _ | assumption | refine bl_al ?_ _ | refine bl_dr ?_ | refine bl_tr ?_ (by assumption) | refine bl_set ?_ ?_ _ | exact Nat.le_refl _) | omega | (simp only [World.size_alloc, World.size_setCell, World.size_drew] at *; omega) | (dsimp only; omega) | (simp; done) | (simp; omega))))).mono ?_; rw [hrH.out]; rintro e w1 ⟨A1, c1, rfl, hrd, hb1⟩; have hrdH := Lib.hid hrd; have hb1H := Lib.hid hb1; clear hrd hb1)
    have hB1 := Lib.hid (show Below w.heap.size w w1 by have := hb1H.out; repeat (first | with_reducible (first | exact bl_refl _ | assumption | refine bl_al ?_ _ | refine bl_dr ?_ | refine bl_tr ?_ (by assumption) | refine bl_set ?_ ?_ _ | exact Nat.le_refl _) | omega | (simp only [World.size_alloc, World.size_setCell, World.size_drew] at *; omega) | (dsimp only; omega) | (simp; done) | (simp; omega)))
    have hs1 := hB1.out.size
    have hll := hrdH.out.len
    clear hb1H
    obtain ⟨n0, hn0⟩ : ∃ n0, l.length = n0 := ⟨_, rfl⟩
    rw [hn0] at hrdH hRl hll
    have hn0H := Lib.hid hn0
    clear hn0
    go_loopg [25, 10] n0 (fun gk i v wr => ∃ (j : Nat) (A2 : Option Addr) (c2 : Nat), j + gk = n0 ∧ i = .int .i64 (j : Int) ∧ v = .slice A2 j c2 ∧ Hid (wr.ownsRow w1.heap.size 2 1 (.slice A2 j c2) j ((l.take j).map (Value.int .i64))) ∧ Hid (Below w1.heap.size w1 wr))
    case atStart => exact ⟨0, none, 0, by omega, rfl, rfl, Lib.hid (World.ownsRow_nil _ _ _ _), Lib.hid (bl_refl _)⟩
    case round =>
      obtain ⟨j, A2, c2, hj, rfl, rfl, hrow, hbw⟩ := hrel
      have hszr := hbw.out.size
      by_cases hjn : j < n0
      · have hrw := hrdH.out.below RHd.stable hbw.out
        obtain ⟨x, hx⟩ := hrw.get hjn
        obtain ⟨b, ob, hAe, hb, hcs⟩ := hrw.ptr (by omega)
        obtain ⟨AV, nV, cV, st, d0, d1, d2⟩ := hcs j x hx
        subst hAe
        have hjI : (j : Int) < (l.length : Int) := by rw [hn0H.out]; omega
        have hj0 : (0 : Int) ≤ (j : Int) := by omega
        have hn := Lib.hid (show l.take (j + 1) = l.take j ++ [x] by rw [List.take_add_one, hx]; rfl)
        have htl : (l.take j).length = j := by rw [List.length_take, hn0H.out]; omega
        clear hcs hx hrw
        go_wp2_with (at_builtin; refine wpList_append_own _ rfl _ _ 70 rfl w1.heap.size 2 i0 (.int .i64 0) 1 8 Tryz.underlying70 hi hz0 hz1 hz2 rfl (by decide) _ j _ rfl ((hrow.out.alloc _).alloc _) ⟨wr.heap.size + 1, 0, none⟩ 1 1 [.int .i64 x] rfl rfl (by have := cell_one_new (wr.alloc (Obj.cells #[.slice AV nV cV, .int .i64 x, .int .i64 st] 134)) (.int .i64 x) 2; simpa using this) (fun x hx => by simp at hx; subst hx; rfl) (by unfold maxLen; omega) (by omega) (by simp; omega) ?_; intro v' w4 hown' hgrow _; obtain ⟨A5, c5, rfl⟩ := ownsRow_form hown'; have hownH := Lib.hid hown'; have hb4 := Lib.hid (show Below w1.heap.size (wr.alloc (Obj.cells #[.slice AV nV cV, .int .i64 x, .int .i64 st] 134)) w4 from below_app (by (try simp); omega) (fun g e => (hrow.out.lt g e).1) hgrow); clear hown' hgrow)
        go_wp2
        go_roundg (n0 - (j + 1))
        case measure => omega
        case rel => exact ⟨j + 1, A5, c5, by omega, by go_num, rfl, Lib.hid (by rw [hn.out, List.map_append]; exact hownH.out), Lib.hid (hbw.out.trans (((bl_al (bl_refl _) _).mono hszr).trans hb4.out))⟩
      · obtain rfl : j = n0 := by omega
        have hjE : ¬ (j : Int) < (l.length : Int) := by rw [hn0H.out]; omega
        have ht := Lib.hid (show l.take j = l from List.take_of_length_le (by rw [hn0H.out]; exact Nat.le_refl _))
        go_wp2
        go_ret2
        exact IntsRes.of rfl (by rw [hn0H.out]; have := hrow.out; rw [ht.out] at this; exact ownsRow_base this hs1) (hB1.out.trans (hbw.out.mono hs1))
  · obtain rfl : l = [] := hc
    have hd : (c != 0) = true := hd
    go_enter Tryz.func31, Tryz.ntmps31
    go_wp2_with (go_at_call 78; refine (DecodeMachine_any _ _ _ _ _ _ _ _ _ _ _ _ gs ts xs ys _ _ _ (hS.out.below (by repeat (first | with_reducible (first | exact bl_refl _ | assumption | refine bl_al ?_ _ | refine bl_dr ?_ | refine bl_tr ?_ (by assumption) | refine bl_set ?_ ?_ _ | exact Nat.le_refl _) | omega | (simp only [World.size_alloc, World.size_setCell, World.size_drew] at *; omega) | (dsimp only; omega) | (simp; done) | (simp; omega)))) (hA.out.below (by repeat (first | with_reducible (first | exact bl_refl _ | assumption | refine bl_al ?_ _ | refine bl_dr ?_ | refine bl_tr ?_ (by assumption) | refine bl_set ?_ ?_ _ | exact Nat.le_refl _) | omega | (simp only [World.size_alloc, World.size_setCell, World.size_drew] at *; omega) | (dsimp only; omega) | (simp; done) | (simp; omega))))).mono ?_; rw [hrH.out]; rintro e w1 ⟨A1, c1, rfl, hrd, hb1⟩; clear hrd)
    go_ret2
    exact IntsRes.of rfl (World.ownsRow_nil _ _ _ _) (by repeat (first | with_reducible (first | exact bl_refl _ | assumption | refine bl_al ?_ _ | refine bl_dr ?_ | refine bl_tr ?_ (by assumption) | refine bl_set ?_ ?_ _ | exact Nat.le_refl _) | omega | (simp only [World.size_alloc, World.size_setCell, World.size_drew] at *; omega) | (dsimp only; omega) | (simp; done) | (simp; omega)))
end Go.Proofs.YtglcpphfmmnmkaaGreat
/- Walks: the symbol and the head that a glue's name tells, the reference. -/



namespace Go.Proofs.YtglcpphfmmnmkaaGreat
open Go.RowKit Go.Shelf
attribute [local go_sem] BelowBy.cell BelowBy.cell_drew stillUpon givesUpon BelowBy.cell_drew2 BelowBy.cell_drew3

theorem baA2_0 (a b : UInt8) (h : 0 < ({ data := #[a, b] } : ByteArray).size) : ({ data := #[a, b] } : ByteArray)[0]'h = a := rfl
theorem baA2_1 (a b : UInt8) (h : 1 < ({ data := #[a, b] } : ByteArray).size) : ({ data := #[a, b] } : ByteArray)[1]'h = b := rfl
theorem baA4_0 (a b c d : UInt8) (h : 0 < ({ data := #[a, b, c, d] } : ByteArray).size) : ({ data := #[a, b, c, d] } : ByteArray)[0]'h = a := rfl
theorem baA4_1 (a b c d : UInt8) (h : 1 < ({ data := #[a, b, c, d] } : ByteArray).size) : ({ data := #[a, b, c, d] } : ByteArray)[1]'h = b := rfl
theorem baA4_2 (a b c d : UInt8) (h : 2 < ({ data := #[a, b, c, d] } : ByteArray).size) : ({ data := #[a, b, c, d] } : ByteArray)[2]'h = c := rfl
theorem baA4_3 (a b c d : UInt8) (h : 3 < ({ data := #[a, b, c, d] } : ByteArray).size) : ({ data := #[a, b, c, d] } : ByteArray)[3]'h = d := rfl
attribute [local go_sem] baA2_0 baA2_1 baA4_0 baA4_1 baA4_2 baA4_3
/-- what l18Cell returns -/
def SCellRes (w : World) (k : Nat) (e : Ending) (w' : World) : Prop :=
  ∃ sy st, e = .returned (.tuple #[.int .i64 sy, .int .i64 st, .bool (k != 0)]) ∧ (k = 1 → st = -1) ∧ (k = 2 → 0 ≤ st) ∧ Below w.heap.size w w'
theorem SCellRes.bad {w w' : World} {k : Nat} (h : k = 0) (hb : Below w.heap.size w w') : SCellRes w k (.returned (.tuple #[.int .i64 0, .int .i64 0, .bool false])) w' := by
  subst h
  exact ⟨0, 0, rfl, fun h => (by omega), fun h => (by omega), hb⟩
theorem digit_rng {b : UInt8} (h : digitI (b.toNat : Int) = true) : 0 ≤ (b.toNat : Int) - 48 ∧ IntKind.u8.wrap ((b.toNat : Int) - 48) = (b.toNat : Int) - 48 ∧ IntKind.i64.wrap ((b.toNat : Int) - 48) = (b.toNat : Int) - 48 := by
  have h1 := (digitI_iff _).1 h
  have hb : b.toNat < 256 := b.toNat_lt
  refine ⟨by omega, ?_, wrap_in (by omega) (by omega)⟩
  simp [IntKind.wrap, IntKind.bits, IntKind.signed]; omega
theorem l18Cell_0 {p op : Nat} {w : World} : Calls Tryz.prog 183 #[.pointer (some ⟨p, op, none⟩), .int .i64 0] w (SCellRes w 0) := by
  go_enter Tryz.func183, Tryz.ntmps183
  go_wp2
  go_ret3
  exact SCellRes.bad rfl (by repeat (first | with_reducible (first | exact bl_refl _ | assumption | refine bl_al ?_ _ | refine bl_dr ?_ | refine bl_tr ?_ (by assumption) | refine bl_set ?_ ?_ _ | exact Nat.le_refl _) | omega | (simp only [World.size_alloc, World.size_setCell, World.size_drew] at *; omega) | (dsimp only; omega) | (simp; done) | (simp; omega)))
set_option maxRecDepth 100000 in
set_option maxHeartbeats 4000000 in
theorem l18Cell_s {p op g : Nat} {gs : List Gl} {ts : List Ti} {eg : Gl} {w : World} (h : SetAt w p op gs ts) (hg : gs[g]? = some eg) (hl : gs.length ≤ 100000) (hsz : eg.name.size ≤ 9223372036854775807) :
    Calls Tryz.prog 183 #[.pointer (some ⟨p, op, none⟩), .int .i64 ((g : Int) + 1)] w (SCellRes w (cellK eg.name)) := by
  obtain ⟨A, n, c, h1, h2⟩ := h.gl
  have hlt := h.lt
  have hgn : g < n := by rw [← h2.len]; exact lt_of_get hg
  have hn : n ≤ 100000 := by rw [← h2.len]; exact hl
  obtain ⟨b, o, rfl, hb, hc⟩ := h2.ptr (by omega)
  obtain ⟨d0, d1⟩ := hc g eg hg
  obtain ⟨s, hs⟩ : ∃ s, eg.name = s := ⟨_, rfl⟩
  rw [hs] at d0 hsz
  rw [hs]
  have hg0 : ((g : Int) + 1 == 0) = false := by simp; omega
  have hgw : IntKind.i64.wrap (g : Int) = (g : Int) := wrap_in (by omega) (by omega)
  have hgi : (0 : Int) ≤ (g : Int) := by omega
  have hge : (g : Int) + 1 - 1 = (g : Int) := by omega
  clear h h2 hc hg hs
  by_cases h2 : s.size = 2
  · obtain ⟨a, d, rfl⟩ := bytesA2 h2
    have hz2 : ({ data := #[a, d] } : ByteArray).size = 2 := rfl
    clear h2 hsz
    rw [cellK_2]
    by_cases ha : (a.toNat : Int) = 97
    · have hab : ((a.toNat : Int) == 97) = true := by simpa using ha
      cases hd : digitI (d.toNat : Int)
      · have hdH := Lib.hid hd
        rw [if_neg (fun x => by cases x.2)]
        clear hd
        go_enter Tryz.func183, Tryz.ntmps183
        go_wp2_with (go_at_call 187; refine (l01Digit_any _ _).mono ?_; rw [hdH.out]; rintro e _ ⟨rfl, rfl⟩)
        go_ret3
        exact SCellRes.bad rfl (by repeat (first | with_reducible (first | exact bl_refl _ | assumption | refine bl_al ?_ _ | refine bl_dr ?_ | refine bl_tr ?_ (by assumption) | refine bl_set ?_ ?_ _ | exact Nat.le_refl _) | omega | (simp only [World.size_alloc, World.size_setCell, World.size_drew] at *; omega) | (dsimp only; omega) | (simp; done) | (simp; omega)))
      · have hdH := Lib.hid hd
        obtain ⟨d3, d4, d5⟩ := digit_rng hd
        rw [if_pos ⟨ha, rfl⟩]
        clear hd
        go_enter Tryz.func183, Tryz.ntmps183
        go_wp2_with (go_at_call 187; refine (l01Digit_any _ _).mono ?_; rw [hdH.out]; rintro e _ ⟨rfl, rfl⟩)
        go_ret3
        exact ⟨_, -1, rfl, fun _ => rfl, fun h => by omega, by repeat (first | with_reducible (first | exact bl_refl _ | assumption | refine bl_al ?_ _ | refine bl_dr ?_ | refine bl_tr ?_ (by assumption) | refine bl_set ?_ ?_ _ | exact Nat.le_refl _) | omega | (simp only [World.size_alloc, World.size_setCell, World.size_drew] at *; omega) | (dsimp only; omega) | (simp; done) | (simp; omega))⟩
    · have hab : ((a.toNat : Int) == 97) = false := by simpa using ha
      rw [if_neg (fun x => ha x.1)]
      go_enter Tryz.func183, Tryz.ntmps183
      go_wp2
      go_ret3
      exact SCellRes.bad rfl (by repeat (first | with_reducible (first | exact bl_refl _ | assumption | refine bl_al ?_ _ | refine bl_dr ?_ | refine bl_tr ?_ (by assumption) | refine bl_set ?_ ?_ _ | exact Nat.le_refl _) | omega | (simp only [World.size_alloc, World.size_setCell, World.size_drew] at *; omega) | (dsimp only; omega) | (simp; done) | (simp; omega)))
  · have h2d : ((s.size : Int) == 2) = false := by simp; omega
    have h2e : ¬ (s.size : Int) = 2 := by omega
    by_cases h4 : s.size = 4
    · obtain ⟨a, d, e, f, rfl⟩ := bytesA4 h4
      have hz4 : ({ data := #[a, d, e, f] } : ByteArray).size = 4 := rfl
      clear h4 h2 hsz h2d h2e
      rw [cellK_4]
      by_cases ha : (a.toNat : Int) = 104
      · have hab : ((a.toNat : Int) == 104) = true := by simpa using ha
        cases hd : digitI (d.toNat : Int)
        · have hdH := Lib.hid hd
          rw [if_neg (fun x => by cases x.2.1)]
          clear hd
          go_enter Tryz.func183, Tryz.ntmps183
          go_wp2_with (go_at_call 187; refine (l01Digit_any _ _).mono ?_; rw [hdH.out]; rintro e _ ⟨rfl, rfl⟩)
          go_ret3
          exact SCellRes.bad rfl (by repeat (first | with_reducible (first | exact bl_refl _ | assumption | refine bl_al ?_ _ | refine bl_dr ?_ | refine bl_tr ?_ (by assumption) | refine bl_set ?_ ?_ _ | exact Nat.le_refl _) | omega | (simp only [World.size_alloc, World.size_setCell, World.size_drew] at *; omega) | (dsimp only; omega) | (simp; done) | (simp; omega)))
        · have hdH := Lib.hid hd
          obtain ⟨d3, d4, d5⟩ := digit_rng hd
          by_cases he : (e.toNat : Int) = 95
          · have heb : ((e.toNat : Int) == 95) = true := by simpa using he
            cases hf : digitI (f.toNat : Int)
            · have hfH := Lib.hid hf
              rw [if_neg (fun x => by cases x.2.2.2)]
              clear hd hf
              go_enter Tryz.func183, Tryz.ntmps183
              go_wp2_with (go_at_call 187; refine (l01Digit_any _ _).mono ?_; (first | rw [hdH.out] | rw [hfH.out]); rintro e _ ⟨rfl, rfl⟩)
              go_ret3
              exact SCellRes.bad rfl (by repeat (first | with_reducible (first | exact bl_refl _ | assumption | refine bl_al ?_ _ | refine bl_dr ?_ | refine bl_tr ?_ (by assumption) | refine bl_set ?_ ?_ _ | exact Nat.le_refl _) | omega | (simp only [World.size_alloc, World.size_setCell, World.size_drew] at *; omega) | (dsimp only; omega) | (simp; done) | (simp; omega)))
            · have hfH := Lib.hid hf
              obtain ⟨f3, f4, f5⟩ := digit_rng hf
              rw [if_pos ⟨ha, rfl, he, rfl⟩]
              clear hd hf
              go_enter Tryz.func183, Tryz.ntmps183
              go_wp2_with (go_at_call 187; refine (l01Digit_any _ _).mono ?_; (first | rw [hdH.out] | rw [hfH.out]); rintro e _ ⟨rfl, rfl⟩)
              refine wp_region_ord [(0, .q), (1, .q), (2, .q), (3, .q), (4, .q), (5, .q), (6, .q), (7, .q), (8, .q), (9, .q), (10, .q)] (by kernel_rfl) (by kernel_rfl) ?_
              simp only [pick, List.filterMap_cons, List.filterMap_nil, List.getElem?_toArray, List.getElem?_cons_zero, List.getElem?_cons_succ, Option.map_some]
              repeat (first
                | ((with_reducible refine wpD_p (fun K hK => ?_)); go_simp; refine hK _ ?_; clear hK K)
                | ((with_reducible refine wpD_q (fun K hK => ?_)); go_simp; (first | refine hK _ ?_ | (go_bits; refine hK _ ?_) | (go_bits; go_simp; refine hK _ ?_)); clear hK K)
                | ((with_reducible refine wpD_g (fun K hK => ?_)); go_simp; refine hK _ _ ?_; clear hK K)
                | ((with_reducible refine wpD_g (fun K hK => ?_)); go_simp; refine ⟨Grew.of_alloc _, hK _ _ ?_⟩; clear hK K))
              with_reducible refine wpD_nil ?_
              go_wp2
              go_ret3
              exact ⟨_, _, rfl, fun h => by omega, fun _ => d3, by repeat (first | with_reducible (first | exact bl_refl _ | assumption | refine bl_al ?_ _ | refine bl_dr ?_ | refine bl_tr ?_ (by assumption) | refine bl_set ?_ ?_ _ | exact Nat.le_refl _) | omega | (simp only [World.size_alloc, World.size_setCell, World.size_drew] at *; omega) | (dsimp only; omega) | (simp; done) | (simp; omega))⟩
          · have heb : ((e.toNat : Int) == 95) = false := by simpa using he
            rw [if_neg (fun x => he x.2.2.1)]
            clear hd
            go_enter Tryz.func183, Tryz.ntmps183
            go_wp2_with (go_at_call 187; refine (l01Digit_any _ _).mono ?_; rw [hdH.out]; rintro e _ ⟨rfl, rfl⟩)
            go_ret3
            exact SCellRes.bad rfl (by repeat (first | with_reducible (first | exact bl_refl _ | assumption | refine bl_al ?_ _ | refine bl_dr ?_ | refine bl_tr ?_ (by assumption) | refine bl_set ?_ ?_ _ | exact Nat.le_refl _) | omega | (simp only [World.size_alloc, World.size_setCell, World.size_drew] at *; omega) | (dsimp only; omega) | (simp; done) | (simp; omega)))
      · have hab : ((a.toNat : Int) == 104) = false := by simpa using ha
        rw [if_neg (fun x => ha x.1)]
        go_enter Tryz.func183, Tryz.ntmps183
        go_wp2
        go_ret3
        exact SCellRes.bad rfl (by repeat (first | with_reducible (first | exact bl_refl _ | assumption | refine bl_al ?_ _ | refine bl_dr ?_ | refine bl_tr ?_ (by assumption) | refine bl_set ?_ ?_ _ | exact Nat.le_refl _) | omega | (simp only [World.size_alloc, World.size_setCell, World.size_drew] at *; omega) | (dsimp only; omega) | (simp; done) | (simp; omega)))
    · have h4d : ((s.size : Int) == 4) = false := by simp; omega
      have h4e : ¬ (s.size : Int) = 4 := by omega
      rw [cellK_ne h2 h4]
      go_enter Tryz.func183, Tryz.ntmps183
      go_wp2
      go_ret3
      exact SCellRes.bad rfl (by repeat (first | with_reducible (first | exact bl_refl _ | assumption | refine bl_al ?_ _ | refine bl_dr ?_ | refine bl_tr ?_ (by assumption) | refine bl_set ?_ ?_ _ | exact Nat.le_refl _) | omega | (simp only [World.size_alloc, World.size_setCell, World.size_drew] at *; omega) | (dsimp only; omega) | (simp; done) | (simp; omega)))
/-- the reading of a glue -/
theorem l18Cell_at {p op : Nat} {gs : List Gl} {ts : List Ti} {v : Int} {g : Nat} {w : World} (h : SetAt w p op gs ts) (hv : v = (g : Int)) (hg : g ≤ gs.length) (hl : gs.length ≤ 100000) (hN : Short gs) :
    Calls Tryz.prog 183 #[.pointer (some ⟨p, op, none⟩), .int .i64 v] w (SCellRes w (cellK (nameI gs v))) := by
  subst hv
  cases g with
  | zero =>
    rw [show ((0 : Nat) : Int) = 0 from rfl, nameI_zero, cellK_empty]
    exact l18Cell_0
  | succ g' =>
    have he := List.getElem?_eq_getElem (l := gs) (i := g') (by omega)
    rw [nameI_succ (by omega) he]
    have := l18Cell_s h he hl (by have := hN _ _ he; omega)
    rwa [show ((g' + 1 : Nat) : Int) = (g' : Int) + 1 by omega]
section
variable {p op : Nat} {gs : List Gl} {ts : List Ti} {v : Int} {g : Nat} {s : ByteArray} {w : World}
theorem l18Cell_k0 (h : SetAt w p op gs ts) (hv : v = (g : Int)) (hg : g ≤ gs.length) (hl : gs.length ≤ 100000) (hN : Short gs) (hs : nameI gs v = s) (hk : cellK s = 0) :
    Calls Tryz.prog 183 #[.pointer (some ⟨p, op, none⟩), .int .i64 v] w fun e w' => ∃ sy st, e = .returned (.tuple #[.int .i64 sy, .int .i64 st, .bool false]) ∧ Below w.heap.size w w' := by
  refine (l18Cell_at h hv hg hl hN).mono ?_
  rw [hs, hk]
  rintro e w' ⟨sy, st, rfl, h1, h2, hb⟩
  exact ⟨sy, st, rfl, hb⟩
theorem l18Cell_k1 (h : SetAt w p op gs ts) (hv : v = (g : Int)) (hg : g ≤ gs.length) (hl : gs.length ≤ 100000) (hN : Short gs) (hs : nameI gs v = s) (hk : cellK s = 1) :
    Calls Tryz.prog 183 #[.pointer (some ⟨p, op, none⟩), .int .i64 v] w fun e w' => ∃ sy, e = .returned (.tuple #[.int .i64 sy, .int .i64 (-1), .bool true]) ∧ Below w.heap.size w w' := by
  refine (l18Cell_at h hv hg hl hN).mono ?_
  rw [hs, hk]
  rintro e w' ⟨sy, st, rfl, h1, h2, hb⟩
  obtain rfl := h1 rfl
  exact ⟨sy, rfl, hb⟩
theorem l18Cell_k2 (h : SetAt w p op gs ts) (hv : v = (g : Int)) (hg : g ≤ gs.length) (hl : gs.length ≤ 100000) (hN : Short gs) (hs : nameI gs v = s) (hk : cellK s = 2) :
    Calls Tryz.prog 183 #[.pointer (some ⟨p, op, none⟩), .int .i64 v] w fun e w' => ∃ sy st, e = .returned (.tuple #[.int .i64 sy, .int .i64 st, .bool true]) ∧ 0 ≤ st ∧ Below w.heap.size w w' := by
  refine (l18Cell_at h hv hg hl hN).mono ?_
  rw [hs, hk]
  rintro e w' ⟨sy, st, rfl, h1, h2, hb⟩
  exact ⟨sy, st, rfl, h2 rfl, hb⟩
end
end Go.Proofs.YtglcpphfmmnmkaaGreat
/- Walk: the configuration of a row, the reference. -/

namespace Go.Proofs.YtglcpphfmmnmkaaGreat
open Go.RowKit Go.Shelf
attribute [local go_sem] BelowBy.cell BelowBy.cell_drew stillUpon givesUpon BelowBy.cell_drew2 BelowBy.cell_drew3

set_option maxRecDepth 100000 in
set_option maxHeartbeats 4000000 in
theorem l18Row_any {p p2 W : Nat} {gs : List Gl} {ts : List Ti} {xs ys : List Pl} {t y : Int} {w : World} (hS : SysAt w p 0 gs ts xs t) (hA : AsmAt w p2 0 ys) (hV : Valid gs ts ys) (hNm : Short gs) (hW : W ≤ 12) :
    Calls Tryz.prog 161 #[.pointer (some ⟨p, 0, none⟩), .pointer (some ⟨p2, 0, none⟩), .int .i64 y, .int .i64 (W : Int)] w (RowRes w (scanH gs ts ys y W)) := by
  obtain ⟨i0, hi, hz0, hz1, hz2⟩ := info_parts infoI
  
  have hSH := Lib.hid hS
  have hAH := Lib.hid hA
  have hN := Lib.hid hNm
  have hlp := hS.sat.s.lt
  have hlp2 := hA.lt
  clear hS hA hNm
  go_enter Tryz.func161, Tryz.ntmps161
  go_wp2
  go_loopg [11] W (fun gk i wr => ∃ (x : Nat) (A2 : Option Addr) (c2 : Nat) (L : List Int) (hd st : Int), x + gk = W ∧ i = .int .i64 (x : Int) ∧ L.length = x ∧ Hid (¬ scanH gs ts ys y x = -2) ∧ Hid (scanH gs ts ys y x = -1 → st = -1) ∧ Hid (0 ≤ scanH gs ts ys y x → 0 ≤ st ∧ hd = scanH gs ts ys y x) ∧ Hid (CfQ wr (w.heap.size + 1) (.slice A2 x c2) hd st) ∧ Hid (CfQ wr w.heap.size (.slice none 0 0) 0 0) ∧ Hid (wr.ownsRow (w.heap.size + 2) 2 1 (.slice A2 x c2) x (L.map (Value.int .i64))) ∧ Hid (Below w.heap.size w wr))
  case atStart => exact ⟨0, none, 0, [], 0, -1, by omega, rfl, rfl, Lib.hid (show ¬ (-1 : Int) = -2 by decide), Lib.hid (fun _ => rfl), Lib.hid (fun h => by have : (0 : Int) ≤ -1 := h; omega), Lib.hid (by have := CfQ.new (w.alloc (Obj.cells #[.slice none 0 0, .int .i64 0, .int .i64 0] 134)) 0 (-1) (.slice none 0 0) 134; (try simp only [World.size_alloc] at this); exact this), Lib.hid (by have := (CfQ.new w 0 0 (.slice none 0 0) 134).below (bl_al (bl_refl _) (Obj.cells #[.slice none 0 0, .int .i64 0, .int .i64 (-1)] 134)) (by simp); (try simp only [World.size_alloc] at this); exact this), Lib.hid (World.ownsRow_nil _ _ _ _), Lib.hid (by repeat (first | with_reducible (first | exact bl_refl _ | assumption | refine bl_al ?_ _ | refine bl_dr ?_ | refine bl_tr ?_ (by assumption) | refine bl_set ?_ ?_ _ | exact Nat.le_refl _) | omega | (simp only [World.size_alloc, World.size_setCell, World.size_drew] at *; omega) | (dsimp only; omega) | (simp; done) | (simp; omega)))⟩
  case round =>
    obtain ⟨x, A2, c2, L, hd, st, hx, rfl, hL, hsc, hs1, hs2, hq, hrq, hrow, hbw⟩ := hrel
    have e3 := hq.out.lt
    have e2 : w.heap.size < wr.heap.size := by omega
    by_cases hxW : x < W
    · have hAr := Lib.hid (hAH.out.below hbw.out)
      have hxW' : (x : Int) < (W : Int) := by omega
      obtain ⟨s, hs⟩ : ∃ s, gluedS gs ts ys (x : Int) y 0 = s := ⟨_, rfl⟩
      have hsH := Lib.hid hs
      have hce : cellAt gs ts ys (x : Int) y = cellK s := by unfold cellAt; rw [hs]
      have hceH := Lib.hid hce
      clear hs hce
      rcases atI_cases hV (x : Int) y with ⟨h1, hat⟩ | ⟨kk, tt, e, h1, he, ht, htl, hat⟩
      · have hatH := Lib.hid hat
        have hres := Lib.hid (show scanH gs ts ys y W = -2 from scan_lt (scan_0 (by rw [hceH.out, ← hsH.out, gluedS_none hat, cellK_empty])) (by omega))
        clear h1 hat
        go_wp2_with (go_at_call 102; refine (l03At_any _ gs ts ys _ _ _ _ hAr.out hV hatH.out).mono ?_; rintro e w3 ⟨rfl, hb3⟩; have hB3 := Lib.hid hb3; have hrq3 := Lib.hid (hrq.out.below hb3 e2); have r0 := hrq3.out.c0; have r1 := hrq3.out.c1; have r2 := hrq3.out.c2; have r3 := hrq3.out.f0; have r4 := hrq3.out.f1; have r5 := hrq3.out.f2; have r6 := hrq3.out.lt; clear hb3)
        refine bodyPost_ret (v := .tuple #[.agg #[.slice none 0 0, .int .i64 0, .int .i64 0], .bool false]) (by simp only [results, Tryz.results161]; go_simp) rfl ?_
        exact ⟨_, _, _, _, _, by rw [hres.out]; rfl, fun h => by rw [hres.out] at h; omega, by have h9 := hbw.out.trans (hB3.out.mono (show w.heap.size ≤ wr.heap.size by omega)); repeat (first | with_reducible (first | exact bl_refl _ | assumption | refine bl_al ?_ _ | refine bl_dr ?_ | refine bl_tr ?_ (by assumption) | refine bl_set ?_ ?_ _ | exact Nat.le_refl _) | omega | (simp only [World.size_alloc, World.size_setCell, World.size_drew] at *; omega) | (dsimp only; omega) | (simp; done) | (simp; omega))⟩
      · have hatH := Lib.hid hat
        clear h1 hat he ht e
        go_wp2_with fail
        refine (l03At_any _ gs ts ys _ _ _ _ hAr.out hV hatH.out).mono ?_
        rintro e' w2 ⟨rfl, hb2⟩
        have hSet := Lib.hid ((hSH.out.below (hbw.out.trans (hb2.mono (show w.heap.size ≤ wr.heap.size by omega)))).sat.s)
        obtain ⟨T, m, ct, y1, hT2⟩ := hSet.out.ti
        have htm : tt < m := by rw [← hT2.len]; exact htl
        have hm6 : m ≤ 160 := by rw [← hT2.len]; exact hV.tl
        obtain ⟨e, he⟩ := hT2.get htm
        obtain ⟨bt, ot, hTe, hbt, hct⟩ := hT2.ptr (by omega)
        subst hTe
        obtain ⟨c0, As, ns, cs, c1, hsd⟩ := hct tt e he
        have hfour := hV.four tt e he
        have hns := hsd.len
        obtain ⟨v, hv⟩ : ∃ v, e.sides[0]? = some v := ⟨_, List.getElem?_eq_getElem (by omega)⟩
        obtain ⟨g, hvg, hgl⟩ := hV.side tt e 0 v he hv
        obtain ⟨bs, os, rfl, hbs, hcs⟩ := hsd.ptr (by omega)
        have c2' := hcs 0 v hv
        unfold RInt at c2'
        simp only [Nat.mul_one, Nat.add_zero] at c2'
        have hdn : 0 < ns := by omega
        have hdn' : (0 : Int) < (ns : Int) := by omega
        have ht0 : ¬ (tt : Int) < 0 := by omega
        have ht1 : (0 : Int) ≤ (tt : Int) := by omega
        have hnm := Lib.hid (show nameI gs v = s by rw [← hsH.out]; exact (gluedS_some hatH.out he hv).symm)
        have hb2H := Lib.hid hb2
        have s2 := hb2.size
        have hlp3 : p < w2.heap.size := by have := hbw.out.size; omega
        subst hvg
        clear hct hcs hsd hT2 he hv hfour hns hb2
        rcases cellK_le s with hk | hk | hk
        · have hkH := Lib.hid hk
          have hres := Lib.hid (show scanH gs ts ys y W = -2 from scan_lt (scan_0 (hceH.out.trans hk)) (by omega))
          clear hk
          go_wp2
          refine wp_region_ord [(0, .q), (1, .q), (2, .q), (3, .q), (4, .q), (5, .q), (6, .q), (7, .q), (8, .q), (9, .q), (10, .q), (11, .q), (12, .q), (13, .q), (14, .g), (15, .q), (16, .q), (17, .q), (18, .q), (19, .q), (20, .q), (21, .q)] (by kernel_rfl) (by kernel_rfl) ?_
          simp only [pick, List.filterMap_cons, List.filterMap_nil, List.getElem?_toArray, List.getElem?_cons_zero, List.getElem?_cons_succ, Option.map_some]
          repeat (first
            | ((with_reducible refine wpD_p (fun K hK => ?_)); go_simp; refine hK _ ?_; clear hK K)
            | ((with_reducible refine wpD_q (fun K hK => ?_)); go_simp; (first | refine hK _ ?_ | (go_bits; refine hK _ ?_) | (go_bits; go_simp; refine hK _ ?_)); clear hK K)
            | ((with_reducible refine wpD_g (fun K hK => ?_)); go_simp; refine hK _ _ ?_; clear hK K)
            | ((with_reducible refine wpD_g (fun K hK => ?_)); go_simp; refine ⟨Grew.of_alloc _, hK _ _ ?_⟩; clear hK K))
          with_reducible refine wpD_g (fun K hK => ?_)
          go_simp
          refine (l18Cell_k0 (hSet.out.below (by repeat (first | with_reducible (first | exact bl_refl _ | assumption | refine bl_al ?_ _ | refine bl_dr ?_ | refine bl_tr ?_ (by assumption) | refine bl_set ?_ ?_ _ | exact Nat.le_refl _) | omega | (simp only [World.size_alloc, World.size_setCell, World.size_drew] at *; omega) | (dsimp only; omega) | (simp; done) | (simp; omega)))) rfl hgl (by have := hV.gl; omega) hN.out hnm.out hkH.out).mono ?_
          rintro e w3 ⟨sy, st9, rfl, hb3⟩
          refine ⟨_, rfl, hb3, hK _ _ ?_⟩
          clear hK K
          have hb3d : Below w2.heap.size w2 w3 := by repeat (first | with_reducible (first | exact bl_refl _ | assumption | refine bl_al ?_ _ | refine bl_dr ?_ | refine bl_tr ?_ (by assumption) | refine bl_set ?_ ?_ _ | exact Nat.le_refl _) | omega | (simp only [World.size_alloc, World.size_setCell, World.size_drew] at *; omega) | (dsimp only; omega) | (simp; done) | (simp; omega))
          have hB3 := Lib.hid (hb2H.out.trans (hb3d.mono hb2H.out.size))
          clear hb3d
          have s9 := hB3.out.size
          have hq3 := hq.out.below hB3.out e3
          have hq3H := Lib.hid hq3
          have hrq3 := Lib.hid (hrq.out.below hB3.out e2)
          have hrow3 := Lib.hid (ownsRow_below hrow.out hB3.out)
          have q0 := hq3.c0
          have q1 := hq3.c1
          have q2 := hq3.c2
          have qf0 := hq3.f0
          have qf1 := hq3.f1
          have qf2 := hq3.f2
          have q9 := hq3.lt
          clear hq3
          clear hb3
          repeat (first
            | ((with_reducible refine wpD_p (fun K hK => ?_)); go_simp; refine hK _ ?_; clear hK K)
            | ((with_reducible refine wpD_q (fun K hK => ?_)); go_simp; (first | refine hK _ ?_ | (go_bits; refine hK _ ?_) | (go_bits; go_simp; refine hK _ ?_)); clear hK K)
            | ((with_reducible refine wpD_g (fun K hK => ?_)); go_simp; refine hK _ _ ?_; clear hK K)
            | ((with_reducible refine wpD_g (fun K hK => ?_)); go_simp; refine ⟨Grew.of_alloc _, hK _ _ ?_⟩; clear hK K))
          with_reducible refine wpD_nil ?_
          have r0 := hrq3.out.c0
          have r1 := hrq3.out.c1
          have r2 := hrq3.out.c2
          have r3 := hrq3.out.f0
          have r4 := hrq3.out.f1
          have r5 := hrq3.out.f2
          have r6 := hrq3.out.lt
          go_wp2
          refine bodyPost_ret (v := .tuple #[.agg #[.slice none 0 0, .int .i64 0, .int .i64 0], .bool false]) (by simp only [results, Tryz.results161]; go_simp) rfl ?_
          exact ⟨_, _, _, _, _, by rw [hres.out]; rfl, fun h => by rw [hres.out] at h; omega, by have h9 := hbw.out.trans (hB3.out.mono (show w.heap.size ≤ wr.heap.size by omega)); repeat (first | with_reducible (first | exact bl_refl _ | assumption | refine bl_al ?_ _ | refine bl_dr ?_ | refine bl_tr ?_ (by assumption) | refine bl_set ?_ ?_ _ | exact Nat.le_refl _) | omega | (simp only [World.size_alloc, World.size_setCell, World.size_drew] at *; omega) | (dsimp only; omega) | (simp; done) | (simp; omega))⟩
        · have hkH := Lib.hid hk
          have hn := Lib.hid (show scanH gs ts ys y (x + 1) = scanH gs ts ys y x from scan_1 (hceH.out.trans hk))
          clear hk
          go_wp2
          refine wp_region_ord [(0, .q), (1, .q), (2, .q), (3, .q), (4, .q), (5, .q), (6, .q), (7, .q), (8, .q), (9, .q), (10, .q), (11, .q), (12, .q), (13, .q), (14, .g), (15, .q), (16, .q), (17, .q), (18, .q), (19, .q), (20, .q), (21, .q)] (by kernel_rfl) (by kernel_rfl) ?_
          simp only [pick, List.filterMap_cons, List.filterMap_nil, List.getElem?_toArray, List.getElem?_cons_zero, List.getElem?_cons_succ, Option.map_some]
          repeat (first
            | ((with_reducible refine wpD_p (fun K hK => ?_)); go_simp; refine hK _ ?_; clear hK K)
            | ((with_reducible refine wpD_q (fun K hK => ?_)); go_simp; (first | refine hK _ ?_ | (go_bits; refine hK _ ?_) | (go_bits; go_simp; refine hK _ ?_)); clear hK K)
            | ((with_reducible refine wpD_g (fun K hK => ?_)); go_simp; refine hK _ _ ?_; clear hK K)
            | ((with_reducible refine wpD_g (fun K hK => ?_)); go_simp; refine ⟨Grew.of_alloc _, hK _ _ ?_⟩; clear hK K))
          with_reducible refine wpD_g (fun K hK => ?_)
          go_simp
          refine (l18Cell_k1 (hSet.out.below (by repeat (first | with_reducible (first | exact bl_refl _ | assumption | refine bl_al ?_ _ | refine bl_dr ?_ | refine bl_tr ?_ (by assumption) | refine bl_set ?_ ?_ _ | exact Nat.le_refl _) | omega | (simp only [World.size_alloc, World.size_setCell, World.size_drew] at *; omega) | (dsimp only; omega) | (simp; done) | (simp; omega)))) rfl hgl (by have := hV.gl; omega) hN.out hnm.out hkH.out).mono ?_
          rintro e w3 ⟨sy, rfl, hb3⟩
          refine ⟨_, rfl, hb3, hK _ _ ?_⟩
          clear hK K
          have hb3d : Below w2.heap.size w2 w3 := by repeat (first | with_reducible (first | exact bl_refl _ | assumption | refine bl_al ?_ _ | refine bl_dr ?_ | refine bl_tr ?_ (by assumption) | refine bl_set ?_ ?_ _ | exact Nat.le_refl _) | omega | (simp only [World.size_alloc, World.size_setCell, World.size_drew] at *; omega) | (dsimp only; omega) | (simp; done) | (simp; omega))
          have hB3 := Lib.hid (hb2H.out.trans (hb3d.mono hb2H.out.size))
          clear hb3d
          have s9 := hB3.out.size
          have hq3 := hq.out.below hB3.out e3
          have hq3H := Lib.hid hq3
          have hrq3 := Lib.hid (hrq.out.below hB3.out e2)
          have hrow3 := Lib.hid (ownsRow_below hrow.out hB3.out)
          have q0 := hq3.c0
          have q1 := hq3.c1
          have q2 := hq3.c2
          have qf0 := hq3.f0
          have qf1 := hq3.f1
          have qf2 := hq3.f2
          have q9 := hq3.lt
          clear hq3
          clear hb3
          repeat (first
            | ((with_reducible refine wpD_p (fun K hK => ?_)); go_simp; refine hK _ ?_; clear hK K)
            | ((with_reducible refine wpD_q (fun K hK => ?_)); go_simp; (first | refine hK _ ?_ | (go_bits; refine hK _ ?_) | (go_bits; go_simp; refine hK _ ?_)); clear hK K)
            | ((with_reducible refine wpD_g (fun K hK => ?_)); go_simp; refine hK _ _ ?_; clear hK K)
            | ((with_reducible refine wpD_g (fun K hK => ?_)); go_simp; refine ⟨Grew.of_alloc _, hK _ _ ?_⟩; clear hK K))
          with_reducible refine wpD_nil ?_
          have hrowS := hrow3
          have hqS := hq3H
          go_wp2_with (at_builtin; refine wpList_append_own _ rfl _ _ 70 rfl (w.heap.size + 2) 2 i0 (.int .i64 0) 1 8 Tryz.underlying70 hi hz0 hz1 hz2 rfl (by decide) _ x _ rfl (hrowS.out.alloc _) ⟨w3.heap.size, 0, none⟩ 1 1 [.int .i64 sy] rfl rfl (by have := cell_one_new (w3) (.int .i64 sy) 2; simpa using this) (fun x hx => by simp at hx; subst hx; rfl) (by unfold maxLen; omega) (by omega) (by simp; omega) ?_; intro v' w4 hown' hgrow _; obtain ⟨A5, c5, rfl⟩ := ownsRow_form hown'; have hownH := Lib.hid hown'; have hb4 := Lib.hid (show Below (w.heap.size + 2) (w3) w4 from below_app (by (try simp); omega) (fun g e => (hrow3.out.lt g e).1) hgrow); have hq4 := hqS.out.below hb4.out (by omega); have m0 := hq4.c0; have mf := hq4.f0; have m9 := hq4.lt; have hq4H := Lib.hid hq4; clear hown' hgrow hq4)
          go_wp2
          go_roundg (W - (x + 1))
          case measure => omega
          case rel => exact ⟨x + 1, A5, c5, L ++ [sy], hd, st, by omega, by go_num, by simp [hL], Lib.hid (by rw [hn.out]; exact hsc.out), Lib.hid (by rw [hn.out]; exact hs1.out), Lib.hid (by rw [hn.out]; exact hs2.out), Lib.hid hq4H.out.set0, Lib.hid (((hrq3.out).below hb4.out (by omega)).below (B := w.heap.size + 1) (Below.setCell (Below.refl _ _) (p := ⟨w.heap.size + 1, 0, none⟩) (Nat.le_refl _) _) (by omega)), Lib.hid (by rw [List.map_append]; exact ownsRow_setCell_below hownH.out (Nat.lt_succ_self _) _), Lib.hid ((hbw.out.trans ((hB3.out.mono (show w.heap.size ≤ wr.heap.size by omega)).trans (hb4.out.mono (show w.heap.size ≤ w.heap.size + 2 by omega)))).setCell (p := ⟨w.heap.size + 1, 0, none⟩) (by show w.heap.size ≤ w.heap.size + 1; omega) _)⟩
        · have hkH := Lib.hid hk
          by_cases hS0 : scanH gs ts ys y x = -1
          · have hn := Lib.hid (show scanH gs ts ys y (x + 1) = (x : Int) from scan_2 (hceH.out.trans hk) hS0)
            obtain rfl := hs1.out hS0
            clear hk hS0
            go_wp2
            refine wp_region_ord [(0, .q), (1, .q), (2, .q), (3, .q), (4, .q), (5, .q), (6, .q), (7, .q), (8, .q), (9, .q), (10, .q), (11, .q), (12, .q), (13, .q), (14, .g), (15, .q), (16, .q), (17, .q), (18, .q), (19, .q), (20, .q), (21, .q)] (by kernel_rfl) (by kernel_rfl) ?_
            simp only [pick, List.filterMap_cons, List.filterMap_nil, List.getElem?_toArray, List.getElem?_cons_zero, List.getElem?_cons_succ, Option.map_some]
            repeat (first
              | ((with_reducible refine wpD_p (fun K hK => ?_)); go_simp; refine hK _ ?_; clear hK K)
              | ((with_reducible refine wpD_q (fun K hK => ?_)); go_simp; (first | refine hK _ ?_ | (go_bits; refine hK _ ?_) | (go_bits; go_simp; refine hK _ ?_)); clear hK K)
              | ((with_reducible refine wpD_g (fun K hK => ?_)); go_simp; refine hK _ _ ?_; clear hK K)
              | ((with_reducible refine wpD_g (fun K hK => ?_)); go_simp; refine ⟨Grew.of_alloc _, hK _ _ ?_⟩; clear hK K))
            with_reducible refine wpD_g (fun K hK => ?_)
            go_simp
            refine (l18Cell_k2 (hSet.out.below (by repeat (first | with_reducible (first | exact bl_refl _ | assumption | refine bl_al ?_ _ | refine bl_dr ?_ | refine bl_tr ?_ (by assumption) | refine bl_set ?_ ?_ _ | exact Nat.le_refl _) | omega | (simp only [World.size_alloc, World.size_setCell, World.size_drew] at *; omega) | (dsimp only; omega) | (simp; done) | (simp; omega)))) rfl hgl (by have := hV.gl; omega) hN.out hnm.out hkH.out).mono ?_
            rintro e w3 ⟨sy, st9, rfl, hst9, hb3⟩
            refine ⟨_, rfl, hb3, hK _ _ ?_⟩
            clear hK K
            have hb3d : Below w2.heap.size w2 w3 := by repeat (first | with_reducible (first | exact bl_refl _ | assumption | refine bl_al ?_ _ | refine bl_dr ?_ | refine bl_tr ?_ (by assumption) | refine bl_set ?_ ?_ _ | exact Nat.le_refl _) | omega | (simp only [World.size_alloc, World.size_setCell, World.size_drew] at *; omega) | (dsimp only; omega) | (simp; done) | (simp; omega))
            have hB3 := Lib.hid (hb2H.out.trans (hb3d.mono hb2H.out.size))
            clear hb3d
            have s9 := hB3.out.size
            have hq3 := hq.out.below hB3.out e3
            have hq3H := Lib.hid hq3
            have hrq3 := Lib.hid (hrq.out.below hB3.out e2)
            have hrow3 := Lib.hid (ownsRow_below hrow.out hB3.out)
            have q0 := hq3.c0
            have q1 := hq3.c1
            have q2 := hq3.c2
            have qf0 := hq3.f0
            have qf1 := hq3.f1
            have qf2 := hq3.f2
            have q9 := hq3.lt
            clear hq3
            clear hb3
            repeat (first
              | ((with_reducible refine wpD_p (fun K hK => ?_)); go_simp; refine hK _ ?_; clear hK K)
              | ((with_reducible refine wpD_q (fun K hK => ?_)); go_simp; (first | refine hK _ ?_ | (go_bits; refine hK _ ?_) | (go_bits; go_simp; refine hK _ ?_)); clear hK K)
              | ((with_reducible refine wpD_g (fun K hK => ?_)); go_simp; refine hK _ _ ?_; clear hK K)
              | ((with_reducible refine wpD_g (fun K hK => ?_)); go_simp; refine ⟨Grew.of_alloc _, hK _ _ ?_⟩; clear hK K))
            with_reducible refine wpD_nil ?_
            have hrowS := Lib.hid (ownsRow_setCell_below (ownsRow_setCell_below hrow3.out (a := ⟨w.heap.size + 1, 2, none⟩) (show w.heap.size + 1 < w.heap.size + 2 by omega) (.int .i64 st9)) (a := ⟨w.heap.size + 1, 1, none⟩) (show w.heap.size + 1 < w.heap.size + 2 by omega) (.int .i64 (x : Int)))
            have hqS := Lib.hid (hq3H.out.set12 (a' := (x : Int)) (b' := st9))
            go_wp2_with (at_builtin; refine wpList_append_own _ rfl _ _ 70 rfl (w.heap.size + 2) 2 i0 (.int .i64 0) 1 8 Tryz.underlying70 hi hz0 hz1 hz2 rfl (by decide) _ x _ rfl (hrowS.out.alloc _) ⟨w3.heap.size, 0, none⟩ 1 1 [.int .i64 sy] rfl rfl (by have := cell_one_new ((w3.setCell ⟨w.heap.size + 1, 2, none⟩ (.int .i64 st9)).setCell ⟨w.heap.size + 1, 1, none⟩ (.int .i64 (x : Int))) (.int .i64 sy) 2; simpa using this) (fun x hx => by simp at hx; subst hx; rfl) (by unfold maxLen; omega) (by omega) (by simp; omega) ?_; intro v' w4 hown' hgrow _; obtain ⟨A5, c5, rfl⟩ := ownsRow_form hown'; have hownH := Lib.hid hown'; have hb4 := Lib.hid (show Below (w.heap.size + 2) ((w3.setCell ⟨w.heap.size + 1, 2, none⟩ (.int .i64 st9)).setCell ⟨w.heap.size + 1, 1, none⟩ (.int .i64 (x : Int))) w4 from below_app (by (try simp); omega) (fun g e => (hrow3.out.lt g e).1) hgrow); have hq4 := hqS.out.below hb4.out (by omega); have m0 := hq4.c0; have mf := hq4.f0; have m9 := hq4.lt; have hq4H := Lib.hid hq4; clear hown' hgrow hq4)
            go_wp2
            go_roundg (W - (x + 1))
            case measure => omega
            case rel => exact ⟨x + 1, A5, c5, L ++ [sy], (x : Int), st9, by omega, by go_num, by simp [hL], Lib.hid (by rw [hn.out]; omega), Lib.hid (by rw [hn.out]; intro h; omega), Lib.hid (by rw [hn.out]; exact fun _ => ⟨hst9, rfl⟩), Lib.hid hq4H.out.set0, Lib.hid ((((hrq3.out.below (B := w.heap.size + 1) (Below.setCell (Below.setCell (Below.refl _ _) (p := ⟨w.heap.size + 1, 2, none⟩) (Nat.le_refl _) (.int .i64 st9)) (p := ⟨w.heap.size + 1, 1, none⟩) (Nat.le_refl _) (.int .i64 (x : Int))) (by omega))).below hb4.out (by omega)).below (B := w.heap.size + 1) (Below.setCell (Below.refl _ _) (p := ⟨w.heap.size + 1, 0, none⟩) (Nat.le_refl _) _) (by omega)), Lib.hid (by rw [List.map_append]; exact ownsRow_setCell_below hownH.out (Nat.lt_succ_self _) _), Lib.hid ((hbw.out.trans (((hB3.out.mono (show w.heap.size ≤ wr.heap.size by omega)).trans (Below.setCell (Below.setCell (Below.refl _ _) (p := ⟨w.heap.size + 1, 2, none⟩) (show w.heap.size ≤ w.heap.size + 1 by omega) (.int .i64 st9)) (p := ⟨w.heap.size + 1, 1, none⟩) (show w.heap.size ≤ w.heap.size + 1 by omega) (.int .i64 (x : Int)))).trans (hb4.out.mono (show w.heap.size ≤ w.heap.size + 2 by omega)))).setCell (p := ⟨w.heap.size + 1, 0, none⟩) (by show w.heap.size ≤ w.heap.size + 1; omega) _)⟩
          · have hres := Lib.hid (show scanH gs ts ys y W = -2 from scan_lt (scan_3 (hceH.out.trans hk) hS0) (by omega))
            have hS1 : 0 ≤ scanH gs ts ys y x := by
              rcases scan_rng gs ts ys y x with h | h | ⟨k, h, _⟩
              · exact (hsc.out h).elim
              · exact (hS0 h).elim
              · omega
            have hst0 := (hs2.out hS1).1
            clear hk hS0 hS1
            go_wp2
            refine wp_region_ord [(0, .q), (1, .q), (2, .q), (3, .q), (4, .q), (5, .q), (6, .q), (7, .q), (8, .q), (9, .q), (10, .q), (11, .q), (12, .q), (13, .q), (14, .g), (15, .q), (16, .q), (17, .q), (18, .q), (19, .q), (20, .q), (21, .q)] (by kernel_rfl) (by kernel_rfl) ?_
            simp only [pick, List.filterMap_cons, List.filterMap_nil, List.getElem?_toArray, List.getElem?_cons_zero, List.getElem?_cons_succ, Option.map_some]
            repeat (first
              | ((with_reducible refine wpD_p (fun K hK => ?_)); go_simp; refine hK _ ?_; clear hK K)
              | ((with_reducible refine wpD_q (fun K hK => ?_)); go_simp; (first | refine hK _ ?_ | (go_bits; refine hK _ ?_) | (go_bits; go_simp; refine hK _ ?_)); clear hK K)
              | ((with_reducible refine wpD_g (fun K hK => ?_)); go_simp; refine hK _ _ ?_; clear hK K)
              | ((with_reducible refine wpD_g (fun K hK => ?_)); go_simp; refine ⟨Grew.of_alloc _, hK _ _ ?_⟩; clear hK K))
            with_reducible refine wpD_g (fun K hK => ?_)
            go_simp
            refine (l18Cell_k2 (hSet.out.below (by repeat (first | with_reducible (first | exact bl_refl _ | assumption | refine bl_al ?_ _ | refine bl_dr ?_ | refine bl_tr ?_ (by assumption) | refine bl_set ?_ ?_ _ | exact Nat.le_refl _) | omega | (simp only [World.size_alloc, World.size_setCell, World.size_drew] at *; omega) | (dsimp only; omega) | (simp; done) | (simp; omega)))) rfl hgl (by have := hV.gl; omega) hN.out hnm.out hkH.out).mono ?_
            rintro e w3 ⟨sy, st9, rfl, hst9, hb3⟩
            refine ⟨_, rfl, hb3, hK _ _ ?_⟩
            clear hK K
            have hb3d : Below w2.heap.size w2 w3 := by repeat (first | with_reducible (first | exact bl_refl _ | assumption | refine bl_al ?_ _ | refine bl_dr ?_ | refine bl_tr ?_ (by assumption) | refine bl_set ?_ ?_ _ | exact Nat.le_refl _) | omega | (simp only [World.size_alloc, World.size_setCell, World.size_drew] at *; omega) | (dsimp only; omega) | (simp; done) | (simp; omega))
            have hB3 := Lib.hid (hb2H.out.trans (hb3d.mono hb2H.out.size))
            clear hb3d
            have s9 := hB3.out.size
            have hq3 := hq.out.below hB3.out e3
            have hq3H := Lib.hid hq3
            have hrq3 := Lib.hid (hrq.out.below hB3.out e2)
            have hrow3 := Lib.hid (ownsRow_below hrow.out hB3.out)
            have q0 := hq3.c0
            have q1 := hq3.c1
            have q2 := hq3.c2
            have qf0 := hq3.f0
            have qf1 := hq3.f1
            have qf2 := hq3.f2
            have q9 := hq3.lt
            clear hq3
            clear hb3
            repeat (first
              | ((with_reducible refine wpD_p (fun K hK => ?_)); go_simp; refine hK _ ?_; clear hK K)
              | ((with_reducible refine wpD_q (fun K hK => ?_)); go_simp; (first | refine hK _ ?_ | (go_bits; refine hK _ ?_) | (go_bits; go_simp; refine hK _ ?_)); clear hK K)
              | ((with_reducible refine wpD_g (fun K hK => ?_)); go_simp; refine hK _ _ ?_; clear hK K)
              | ((with_reducible refine wpD_g (fun K hK => ?_)); go_simp; refine ⟨Grew.of_alloc _, hK _ _ ?_⟩; clear hK K))
            with_reducible refine wpD_nil ?_
            have r0 := hrq3.out.c0
            have r1 := hrq3.out.c1
            have r2 := hrq3.out.c2
            have r3 := hrq3.out.f0
            have r4 := hrq3.out.f1
            have r5 := hrq3.out.f2
            have r6 := hrq3.out.lt
            go_wp2
            refine bodyPost_ret (v := .tuple #[.agg #[.slice none 0 0, .int .i64 0, .int .i64 0], .bool false]) (by simp only [results, Tryz.results161]; go_simp) rfl ?_
            exact ⟨_, _, _, _, _, by rw [hres.out]; rfl, fun h => by rw [hres.out] at h; omega, by have h9 := hbw.out.trans (hB3.out.mono (show w.heap.size ≤ wr.heap.size by omega)); repeat (first | with_reducible (first | exact bl_refl _ | assumption | refine bl_al ?_ _ | refine bl_dr ?_ | refine bl_tr ?_ (by assumption) | refine bl_set ?_ ?_ _ | exact Nat.le_refl _) | omega | (simp only [World.size_alloc, World.size_setCell, World.size_drew] at *; omega) | (dsimp only; omega) | (simp; done) | (simp; omega))⟩
    · obtain rfl : x = W := by omega
      have q0 := hq.out.c0
      have q1 := hq.out.c1
      have q2 := hq.out.c2
      have r0 := hrq.out.c0
      have r1 := hrq.out.c1
      have r2 := hrq.out.c2
      have r3 := hrq.out.f0
      have r4 := hrq.out.f1
      have r5 := hrq.out.f2
      have hst : (0 ≤ st ∧ 0 ≤ scanH gs ts ys y x ∧ hd = scanH gs ts ys y x) ∨ (¬ 0 ≤ st ∧ ¬ 0 ≤ scanH gs ts ys y x) := by
        rcases scan_rng gs ts ys y x with h | h | ⟨k, h, _⟩
        · exact (hsc.out h).elim
        · have := hs1.out h
          exact Or.inr ⟨by omega, by omega⟩
        · have h5 := hs2.out (by omega)
          exact Or.inl ⟨h5.1, by omega, h5.2⟩
      have hstH := Lib.hid hst
      clear hst
      go_wp2
      go_region
      go_wp2
      refine bodyPost_ret (v := .tuple #[.agg #[.slice A2 x c2, .int .i64 hd, .int .i64 st], .bool (decide (0 ≤ st))]) (by simp only [results, Tryz.results161]; go_simp) rfl ?_
      rcases hstH.out with ⟨h1, h2, h3⟩ | ⟨h1, h2⟩
      · exact ⟨A2, x, c2, hd, st, by rw [decide_eq_true h1, decide_eq_true h2], fun _ => h3, by have h9 := hbw.out; repeat (first | with_reducible (first | exact bl_refl _ | assumption | refine bl_al ?_ _ | refine bl_dr ?_ | refine bl_tr ?_ (by assumption) | refine bl_set ?_ ?_ _ | exact Nat.le_refl _) | omega | (simp only [World.size_alloc, World.size_setCell, World.size_drew] at *; omega) | (dsimp only; omega) | (simp; done) | (simp; omega))⟩
      · exact ⟨A2, x, c2, hd, st, by rw [decide_eq_false (show ¬ 0 ≤ st by omega), decide_eq_false (show ¬ 0 ≤ scanH gs ts ys y x by omega)], fun h => (by omega), by have h9 := hbw.out; repeat (first | with_reducible (first | exact bl_refl _ | assumption | refine bl_al ?_ _ | refine bl_dr ?_ | refine bl_tr ?_ (by assumption) | refine bl_set ?_ ?_ _ | exact Nat.le_refl _) | omega | (simp only [World.size_alloc, World.size_setCell, World.size_drew] at *; omega) | (dsimp only; omega) | (simp; done) | (simp; omega))⟩
end Go.Proofs.YtglcpphfmmnmkaaGreat
/- Walk: HeadPath, the reference. -/


namespace Go.Proofs.YtglcpphfmmnmkaaGreat
open Go.RowKit Go.Shelf
attribute [local go_sem] BelowBy.cell BelowBy.cell_drew stillUpon givesUpon BelowBy.cell_drew2 BelowBy.cell_drew3

set_option maxRecDepth 100000 in
set_option maxHeartbeats 4000000 in
theorem l18Decode_any {p p2 W : Nat} {gs : List Gl} {ts : List Ti} {xs ys : List Pl} {t : Int} {w : World} (hS : SysAt w p 0 gs ts xs t) (hA : AsmAt w p2 0 ys) (hV : Valid gs ts ys) (hNm : Short gs) (hW : W ≤ 12) (hW1 : 1 ≤ W) :
    Calls Tryz.prog 124 #[.pointer (some ⟨p, 0, none⟩), .pointer (some ⟨p2, 0, none⟩), .int .i64 (W : Int)] w (HdsRes w (headsL gs ts ys W (okN gs ts ys W 61))) := by
  obtain ⟨i0, hi, hz0, hz1, hz2⟩ := info_parts infoCf
  
  have hSH := Lib.hid hS
  have hAH := Lib.hid hA
  have hN := Lib.hid hNm
  clear hS hA hNm
  go_enter Tryz.func124, Tryz.ntmps124
  go_wp2
  go_loopg [7, 8] 62 (fun gk v i wr => ∃ (y : Nat) (A2 : Option Addr) (c2 : Nat) (L : List Cf), y + gk = 62 ∧ i = .int .i64 (y : Int) ∧ v = .slice A2 y c2 ∧ L.length = y ∧ Hid (L.map Cf.hd = headsL gs ts ys W y) ∧ Hid (∀ y' : Nat, y' < y → 0 ≤ scanH gs ts ys (y' : Int) W) ∧ Hid (wr.ownsRow w.heap.size 134 3 (.slice A2 y c2) y (cfCells L)) ∧ Hid (Below w.heap.size w wr))
  case atStart => exact ⟨0, some ⟨w.heap.size, 0, none⟩, 0, [], by omega, rfl, rfl, rfl, Lib.hid rfl, Lib.hid (fun y' hy' => by omega), Lib.hid (by have := World.ownsRow_lit (base := w.heap.size) (e := 134) (size := 3) w #[] 0 (Nat.le_refl _) (by decide) rfl; simpa [cfCells] using this), Lib.hid (bl_al (bl_refl _) _)⟩
  case round =>
    obtain ⟨y, A2, c2, L, hy, rfl, rfl, hL, hmap, hok, hrow, hbw⟩ := hrel
    have hy61 := rows_stop hV hW1 hok.out
    by_cases hy6 : y ≤ 60
    · have hy6' : (y : Int) ≤ 60 := by omega
      have hsz : w.heap.size ≤ wr.heap.size := hbw.out.size
      by_cases hy0 : 0 ≤ scanH gs ts ys (y : Int) W
      · obtain ⟨sH, hsH⟩ : ∃ sH, scanH gs ts ys (y : Int) W = sH := ⟨_, rfl⟩
        have hsHH := Lib.hid hsH
        have hn := Lib.hid (show headsL gs ts ys W (y + 1) = headsL gs ts ys W y ++ [sH] by rw [← hsH]; rfl)
        have hsH0 : 0 ≤ sH := by rw [← hsH]; exact hy0
        go_wp2_with (first
          | (go_at_call 161; refine (l18Row_any (hSH.out.below hbw.out) (hAH.out.below hbw.out) hV hN.out hW).mono ?_; rw [hsHH.out]; intro e w2 hrr; obtain ⟨AV, nV, cV, b, rfl, hb2⟩ := RowRes.yes hrr hsH0; have hb2H := Lib.hid hb2; have s2 := hb2.size; clear hb2 hrr)
          | (at_builtin; refine wpList_append_own _ rfl _ _ 130 rfl w.heap.size 134 i0 (.agg #[.slice none 0 0, .int .i64 0, .int .i64 0]) 3 40 Tryz.underlying130 hi hz0 hz1 hz2 rfl (by decide) _ y _ rfl (((ownsRow_below hrow.out hb2H.out).alloc _).alloc _) ⟨w2.heap.size + 1, 0, none⟩ 1 1 [.slice AV nV cV, .int .i64 sH, .int .i64 b] rfl rfl (by have := cell_three_new (w2.alloc (Obj.cells #[.slice AV nV cV, .int .i64 sH, .int .i64 b] 134)) (.slice AV nV cV) (.int .i64 sH) (.int .i64 b) 134; simpa using this) (fun x hx => by simp at hx; rcases hx with rfl | rfl | rfl <;> rfl) (by unfold maxLen; omega) (by omega) (by simp; omega) ?_; intro v' w4 hown' hgrow _; obtain ⟨A5, c5, rfl⟩ := ownsRow_form hown'; have hownH := Lib.hid hown'; have hb4 := Lib.hid (show Below w.heap.size (w2.alloc (Obj.cells #[.slice AV nV cV, .int .i64 sH, .int .i64 b] 134)) w4 from below_app (by (try simp); omega) (fun g e => (hrow.out.lt g e).1) hgrow); clear hown' hgrow))
        have hB2 := Lib.hid (hb2H.out.trans (bl_al (bl_refl _) (Obj.cells #[.slice AV nV cV, .int .i64 sH, .int .i64 b] 134) |>.mono s2))
        go_wp2
        go_roundg (62 - (y + 1))
        case measure => omega
        case rel => exact ⟨y + 1, A5, c5, L ++ [⟨AV, nV, cV, sH, b⟩], by omega, by go_num, rfl, by simp [hL], Lib.hid (by rw [hn.out, List.map_append, hmap.out]; rfl), Lib.hid (fun y' hy' => by
            rcases Nat.lt_succ_iff_lt_or_eq.1 hy' with h | rfl
            · exact hok.out y' h
            · exact hy0), Lib.hid (by rw [cfCells_snoc]; exact hownH.out), Lib.hid (hbw.out.trans ((hB2.out.mono hsz).trans hb4.out))⟩
      · have hyd := decide_eq_false hy0
        have hN2 := Lib.hid (okN_is hV hW1 hok.out (by omega))
        have hll := Lib.hid (headsL_len gs ts ys W y)
        go_wp2_with (go_at_call 161; refine (l18Row_any (hSH.out.below hbw.out) (hAH.out.below hbw.out) hV hN.out hW).mono ?_; intro e w2 hrr; obtain ⟨AV, nV, cV, a, b, rfl, hb2⟩ := RowRes.no hrr hy0; have hb2H := Lib.hid hb2; clear hb2 hrr)
        go_ret
        exact ⟨A2, c2, by rw [hN2.out, hll.out]; first | done | rfl, by rw [hN2.out, hll.out, ← hmap.out]; exact (rdHd hrow.out hL.symm).below RHd.stable (bl_al hb2H.out _), by have h9 := hbw.out.trans (hb2H.out.mono hsz); repeat (first | with_reducible (first | exact bl_refl _ | assumption | refine bl_al ?_ _ | refine bl_dr ?_ | refine bl_tr ?_ (by assumption) | refine bl_set ?_ ?_ _ | exact Nat.le_refl _) | omega | (simp only [World.size_alloc, World.size_setCell, World.size_drew] at *; omega) | (dsimp only; omega) | (simp; done) | (simp; omega))⟩
    · obtain rfl : y = 61 := by omega
      have hN9 := Lib.hid (okN_all (gs := gs) (ts := ts) (ys := ys) (W := W) 61 hok.out)
      go_wp2
      go_ret
      exact ⟨A2, c2, by rw [hN9.out, headsL_len]; first | done | rfl, by rw [hN9.out, headsL_len, ← hmap.out]; exact rdHd hrow.out hL.symm, hbw.out⟩
set_option maxRecDepth 100000 in
set_option maxHeartbeats 4000000 in
theorem sDecodeMachine_any (G T A C : Option Addr) (n cg m ct q ca k cc : Nat) (gs : List Gl) (ts : List Ti) (xs ys : List Pl) (t wd : Int) (w : World) (h : SA w G n T m A q gs ts xs) (h2 : SA w G n T m C k gs ts ys) :
    Calls Tryz.prog 77 #[.agg #[.slice G n cg, .slice T m ct, .slice A q ca, .int .i64 t], .agg #[.slice C k cc], .int .i64 wd] w (HdsCode w (headR gs ts xs t ys wd)) := by
  
  have hS := Lib.hid (show SysAt ((w.alloc (Obj.cells #[.slice G n cg, .slice T m ct, .slice A q ca, .int .i64 t] 45)).alloc (Obj.cells #[.slice C k cc] 37)) w.heap.size 0 gs ts xs t from (h.sysbox cg ct ca t).below (bl_al (bl_refl _) _))
  have hA := Lib.hid (show AsmAt ((w.alloc (Obj.cells #[.slice G n cg, .slice T m ct, .slice A q ca, .int .i64 t] 45)).alloc (Obj.cells #[.slice C k cc] 37)) (w.heap.size + 1) 0 ys from ⟨by simp, C, k, cc, by go_simp, h2.A.below RPl.stable (by repeat (first | with_reducible (first | exact bl_refl _ | assumption | refine bl_al ?_ _ | refine bl_dr ?_ | refine bl_tr ?_ (by assumption) | refine bl_set ?_ ?_ _ | exact Nat.le_refl _) | omega | (simp only [World.size_alloc, World.size_setCell, World.size_drew] at *; omega) | (dsimp only; omega) | (simp; done) | (simp; omega)))⟩)
  have hk : ys.length ≤ 1073741824 := by rw [h2.A.len]; exact h2.q
  clear h h2
  cases hg : growB gs ts xs t ys
  · have hgH := Lib.hid hg
    clear hg
    go_enter Tryz.func77, Tryz.ntmps77
    go_wp2_with (go_at_call 81; refine (l08Asked_at hS.out hA.out hk hgH.out).mono ?_; simp only [codeB_false]; rintro e w1 ⟨rfl, hb1⟩)
    go_ret2
    exact HdsCode.of (headR_no hgH.out) rfl (rdHd_nil _) (by repeat (first | with_reducible (first | exact bl_refl _ | assumption | refine bl_al ?_ _ | refine bl_dr ?_ | refine bl_tr ?_ (by assumption) | refine bl_set ?_ ?_ _ | exact Nat.le_refl _) | omega | (simp only [World.size_alloc, World.size_setCell, World.size_drew] at *; omega) | (dsimp only; omega) | (simp; done) | (simp; omega)))
  · have hgH := Lib.hid hg
    have hV := valid_of (growB_true hg).2
    have hNm := short_of (growB_true hg).2
    clear hg
    cases hw : inB wd 1 12
    · have hwH := Lib.hid hw
      have hr := Lib.hid (headR_range hgH.out hw)
      clear hw
      go_enter Tryz.func77, Tryz.ntmps77
      go_wp2_with (first
        | (go_at_call 81; refine (l08Asked_at hS.out hA.out hk hgH.out).mono ?_; simp only [codeB_true]; rintro e w1 ⟨rfl, hb1⟩)
        | (go_at_call 123; refine (l00In_any _ _ _ _).mono ?_; rw [hwH.out]; rintro e _ ⟨rfl, rfl⟩))
      go_ret2
      exact HdsCode.of hr.out rfl (rdHd_nil _) (by repeat (first | with_reducible (first | exact bl_refl _ | assumption | refine bl_al ?_ _ | refine bl_dr ?_ | refine bl_tr ?_ (by assumption) | refine bl_set ?_ ?_ _ | exact Nat.le_refl _) | omega | (simp only [World.size_alloc, World.size_setCell, World.size_drew] at *; omega) | (dsimp only; omega) | (simp; done) | (simp; omega)))
    · have hwH := Lib.hid hw
      obtain ⟨W, rfl, hW1, hW2⟩ := inB_nat hw (by decide)
      obtain ⟨N, hN⟩ : ∃ N, okN gs ts ys W 61 = N := ⟨_, rfl⟩
      have hNH := Lib.hid hN
      have hNl := Lib.hid (headsL_len gs ts ys W N)
      by_cases hN0 : N = 0
      · have hres := Lib.hid (headR_none (W := W) hgH.out hw (hN.trans hN0))
        have hNd : ((N : Int) == 0) = true := by simp; omega
        clear hw hN
        go_enter Tryz.func77, Tryz.ntmps77
        go_wp2_with (first
          | (go_at_call 81; refine (l08Asked_at hS.out hA.out hk hgH.out).mono ?_; simp only [codeB_true]; rintro e w1 ⟨rfl, hb1⟩; have hb1H := Lib.hid hb1; clear hb1)
          | (go_at_call 123; refine (l00In_any _ _ _ _).mono ?_; rw [hwH.out]; rintro e _ ⟨rfl, rfl⟩)
          | (go_at_call 124; refine (l18Decode_any (hS.out.below hb1H.out) (hA.out.below hb1H.out) hV hNm (by omega) (by omega)).mono ?_; rw [hNH.out]; rintro e w2 ⟨A2, c2, rfl, hrd, hb2⟩; rw [hNl.out]; clear hrd))
        go_ret2
        exact HdsCode.of hres.out rfl (rdHd_nil _) (by have h9 := hb1H.out; repeat (first | with_reducible (first | exact bl_refl _ | assumption | refine bl_al ?_ _ | refine bl_dr ?_ | refine bl_tr ?_ (by assumption) | refine bl_set ?_ ?_ _ | exact Nat.le_refl _) | omega | (simp only [World.size_alloc, World.size_setCell, World.size_drew] at *; omega) | (dsimp only; omega) | (simp; done) | (simp; omega)))
      · have hres := Lib.hid (headR_yes (W := W) hgH.out hw hN hN0)
        have hNd : ((N : Int) == 0) = false := by simp; omega
        clear hw hN
        go_enter Tryz.func77, Tryz.ntmps77
        go_wp2_with (first
          | (go_at_call 81; refine (l08Asked_at hS.out hA.out hk hgH.out).mono ?_; simp only [codeB_true]; rintro e w1 ⟨rfl, hb1⟩; have hb1H := Lib.hid hb1; clear hb1)
          | (go_at_call 123; refine (l00In_any _ _ _ _).mono ?_; rw [hwH.out]; rintro e _ ⟨rfl, rfl⟩)
          | (go_at_call 124; refine (l18Decode_any (hS.out.below hb1H.out) (hA.out.below hb1H.out) hV hNm (by omega) (by omega)).mono ?_; rw [hNH.out]; rintro e w2 ⟨A2, c2, rfl, hrd, hb2⟩; rw [hNl.out] at hrd; rw [hNl.out]; have hrdH := Lib.hid hrd; clear hrd))
        go_ret2
        exact HdsCode.of hres.out hNl.out.symm hrdH.out (by have h9 := hb1H.out; repeat (first | with_reducible (first | exact bl_refl _ | assumption | refine bl_al ?_ _ | refine bl_dr ?_ | refine bl_tr ?_ (by assumption) | refine bl_set ?_ ?_ _ | exact Nat.le_refl _) | omega | (simp only [World.size_alloc, World.size_setCell, World.size_drew] at *; omega) | (dsimp only; omega) | (simp; done) | (simp; omega)))
set_option maxRecDepth 100000 in
set_option maxHeartbeats 4000000 in
theorem sHeadPath_any (G T A C : Option Addr) (n cg m ct q ca k cc : Nat) (gs : List Gl) (ts : List Ti) (xs ys : List Pl) (t wd : Int) (w : World) (h : SA w G n T m A q gs ts xs) (h2 : SA w G n T m C k gs ts ys) :
    Calls Tryz.prog 30 #[.agg #[.slice G n cg, .slice T m ct, .slice A q ca, .int .i64 t], .agg #[.slice C k cc], .int .i64 wd] w (IntsRes w (headR gs ts xs t ys wd)) := by
  obtain ⟨i0, hi, hz0, hz1, hz2⟩ := info_parts infoI
  
  have hS := Lib.hid h
  have hA := Lib.hid h2
  have hRl := headR_len gs ts xs t ys wd
  clear h h2
  have hc := headR_code (gs := gs) (ts := ts) (xs := xs) (t := t) (ys := ys) (wd := wd)
  obtain ⟨r, hr⟩ : ∃ r, headR gs ts xs t ys wd = r := ⟨_, rfl⟩
  have hrH := Lib.hid hr
  rw [hr] at hc hRl
  rw [hr]
  obtain ⟨l, c⟩ := r
  clear hr
  have hRl : l.length ≤ 1073741824 := hRl
  rcases hc with hc | ⟨hc, hd⟩
  · obtain rfl : c = 0 := hc
    go_enter Tryz.func30, Tryz.ntmps30
    go_wp2_with (go_at_call 77; refine (sDecodeMachine_any _ _ _ _ _ _ _ _ _ _ _ _ gs ts xs ys _ _ _ (hS.out.below (by repeat (first | with_reducible (first | exact bl_refl _ | assumption | refine bl_al ?_ _ | refine bl_dr ?_ | refine bl_tr ?_ (by assumption) | refine bl_set ?_ ?_ _ | exact Nat.le_refl _) | omega | (simp only [World.size_alloc, World.size_setCell, World.size_drew] at *; omega) | (dsimp only; omega) | (simp; done) | (simp; omega)))) (hA.out.below (by repeat (first | with_reducible (first | exact bl_refl _ | assumption | refine bl_al ?_ _ | refine bl_dr ?_ | refine bl_tr ?_ (by assumption) | refine bl_set ?_ ?_ _ | exact Nat.le_refl _) | omega | (simp only [World.size_alloc, World.size_setCell, World.size_drew] at *; omega) | (dsimp only; omega) | (simp; done) | (simp; omega))))).mono ?_; rw [hrH.out]; rintro e w1 ⟨A1, c1, rfl, hrd, hb1⟩; have hrdH := Lib.hid hrd; have hb1H := Lib.hid hb1; clear hrd hb1)
    have hB1 := Lib.hid (show Below w.heap.size w w1 by have := hb1H.out; repeat (first | with_reducible (first | exact bl_refl _ | assumption | refine bl_al ?_ _ | refine bl_dr ?_ | refine bl_tr ?_ (by assumption) | refine bl_set ?_ ?_ _ | exact Nat.le_refl _) | omega | (simp only [World.size_alloc, World.size_setCell, World.size_drew] at *; omega) | (dsimp only; omega) | (simp; done) | (simp; omega)))
    have hs1 := hB1.out.size
    have hll := hrdH.out.len
    clear hb1H
    obtain ⟨n0, hn0⟩ : ∃ n0, l.length = n0 := ⟨_, rfl⟩
    rw [hn0] at hrdH hRl hll
    have hn0H := Lib.hid hn0
    clear hn0
    go_loopg [11, 10] n0 (fun gk i v wr => ∃ (j : Nat) (A2 : Option Addr) (c2 : Nat), j + gk = n0 ∧ i = .int .i64 (j : Int) ∧ v = .slice A2 j c2 ∧ Hid (wr.ownsRow w1.heap.size 2 1 (.slice A2 j c2) j ((l.take j).map (Value.int .i64))) ∧ Hid (Below w1.heap.size w1 wr))
    case atStart => exact ⟨0, some ⟨w1.heap.size, 0, none⟩, 0, by omega, rfl, rfl, Lib.hid (by have := World.ownsRow_lit (base := w1.heap.size) (e := 2) (size := 1) w1 #[] 0 (Nat.le_refl _) (by decide) rfl; simpa using this), Lib.hid (bl_al (bl_refl _) _)⟩
    case round =>
      obtain ⟨j, A2, c2, hj, rfl, rfl, hrow, hbw⟩ := hrel
      have hszr := hbw.out.size
      by_cases hjn : j < n0
      · have hrw := hrdH.out.below RHd.stable hbw.out
        obtain ⟨x, hx⟩ := hrw.get hjn
        obtain ⟨b, ob, hAe, hb, hcs⟩ := hrw.ptr (by omega)
        obtain ⟨AV, nV, cV, st, d0, d1, d2⟩ := hcs j x hx
        subst hAe
        have hjI : (j : Int) < (l.length : Int) := by rw [hn0H.out]; omega
        have hj0 : (0 : Int) ≤ (j : Int) := by omega
        have hn := Lib.hid (show l.take (j + 1) = l.take j ++ [x] by rw [List.take_add_one, hx]; rfl)
        have htl : (l.take j).length = j := by rw [List.length_take, hn0H.out]; omega
        clear hcs hx hrw
        go_wp2_with (at_builtin; refine wpList_append_own _ rfl _ _ 70 rfl w1.heap.size 2 i0 (.int .i64 0) 1 8 Tryz.underlying70 hi hz0 hz1 hz2 rfl (by decide) _ j _ rfl (hrow.out.alloc _) ⟨wr.heap.size, 0, none⟩ 1 1 [.int .i64 x] rfl rfl (by have := cell_one_new wr (.int .i64 x) 2; simpa using this) (fun x hx => by simp at hx; subst hx; rfl) (by unfold maxLen; omega) (by omega) (by simp; omega) ?_; intro v' w4 hown' hgrow _; obtain ⟨A5, c5, rfl⟩ := ownsRow_form hown'; have hownH := Lib.hid hown'; have hb4 := Lib.hid (show Below w1.heap.size wr w4 from below_app (by (try simp); omega) (fun g e => (hrow.out.lt g e).1) hgrow); clear hown' hgrow)
        go_wp2
        go_roundg (n0 - (j + 1))
        case measure => omega
        case rel => exact ⟨j + 1, A5, c5, by omega, by go_num, rfl, Lib.hid (by rw [hn.out, List.map_append]; exact hownH.out), Lib.hid (hbw.out.trans hb4.out)⟩
      · obtain rfl : j = n0 := by omega
        have hjE : ¬ (j : Int) < (l.length : Int) := by rw [hn0H.out]; omega
        have ht := Lib.hid (show l.take j = l from List.take_of_length_le (by rw [hn0H.out]; exact Nat.le_refl _))
        go_wp2
        go_ret2
        exact IntsRes.of rfl (by rw [hn0H.out]; have := hrow.out; rw [ht.out] at this; exact ownsRow_base this hs1) (hB1.out.trans (hbw.out.mono hs1))
  · obtain rfl : l = [] := hc
    have hd : (c != 0) = true := hd
    go_enter Tryz.func30, Tryz.ntmps30
    go_wp2_with (go_at_call 77; refine (sDecodeMachine_any _ _ _ _ _ _ _ _ _ _ _ _ gs ts xs ys _ _ _ (hS.out.below (by repeat (first | with_reducible (first | exact bl_refl _ | assumption | refine bl_al ?_ _ | refine bl_dr ?_ | refine bl_tr ?_ (by assumption) | refine bl_set ?_ ?_ _ | exact Nat.le_refl _) | omega | (simp only [World.size_alloc, World.size_setCell, World.size_drew] at *; omega) | (dsimp only; omega) | (simp; done) | (simp; omega)))) (hA.out.below (by repeat (first | with_reducible (first | exact bl_refl _ | assumption | refine bl_al ?_ _ | refine bl_dr ?_ | refine bl_tr ?_ (by assumption) | refine bl_set ?_ ?_ _ | exact Nat.le_refl _) | omega | (simp only [World.size_alloc, World.size_setCell, World.size_drew] at *; omega) | (dsimp only; omega) | (simp; done) | (simp; omega))))).mono ?_; rw [hrH.out]; rintro e w1 ⟨A1, c1, rfl, hrd, hb1⟩; clear hrd)
    go_ret2
    exact IntsRes.of rfl (World.ownsRow_nil _ _ _ _) (by repeat (first | with_reducible (first | exact bl_refl _ | assumption | refine bl_al ?_ _ | refine bl_dr ?_ | refine bl_tr ?_ (by assumption) | refine bl_set ?_ ?_ _ | exact Nat.le_refl _) | omega | (simp only [World.size_alloc, World.size_setCell, World.size_drew] at *; omega) | (dsimp only; omega) | (simp; done) | (simp; omega)))
end Go.Proofs.YtglcpphfmmnmkaaGreat
