import Derived.Test.YtmhgjgclclnmaaaGreatW20a
import Derived.Test.YtmhgjgclclnmaaaGreatW17a
import Derived.Test.YtmhgjgclclnmaaaGreatOrdApp
import Derived.Test.YtmhgjgclclnmaaaGreatHTo
import Derived.Test.YtmhgjgclclnmaaaGreatW17
set_option linter.unusedSimpArgs false
set_option linter.unusedVariables false
/- Walks: the tile at a point; with what strength a tile binds at a point. -/

namespace Go.Proofs.YtmhgjgclclnmaaaGreat
open Go.RowKit Go.Shelf
attribute [local go_sem] BelowBy.cell BelowBy.cell_drew stillUpon givesUpon BelowBy.cell_drew2 BelowBy.cell_drew3

/-- the tile at a point, or -1 -/
noncomputable def atI (xs : List Pl) (x y : Int) : Int := if placeI xs x y < 0 then -1 else match xs[(placeI xs x y).toNat]? with
  | some e => e.t
  | none => -1
theorem atI_none {xs : List Pl} {x y : Int} (h : placeI xs x y = -1) : atI xs x y = -1 := by unfold atI; rw [h, if_pos (by decide)]
theorem atI_some {xs : List Pl} {x y : Int} {k : Nat} {e : Pl} (h : placeI xs x y = k) (he : xs[k]? = some e) : atI xs x y = e.t := by
  unfold atI; rw [h, if_neg (by omega)]
  have : ((k : Nat) : Int).toNat = k := by omega
  simp only [this, he]
theorem atI_cases {gs : List Gl} {ts : List Ti} {xs : List Pl} (hV : Valid gs ts xs) (x y : Int) : (placeI xs x y = -1 ∧ atI xs x y = -1) ∨ ∃ (k t : Nat) (e : Pl), placeI xs x y = k ∧ xs[k]? = some e ∧ e.t = t ∧ t < ts.length ∧ atI xs x y = t := by
  rcases placeI_cases xs x y with h | ⟨k, h, hk⟩
  · exact Or.inl ⟨h, atI_none h⟩
  · have he := List.getElem?_eq_getElem hk
    obtain ⟨t, ht, htl⟩ := hV.ti k _ he
    exact Or.inr ⟨k, t, _, h, he, ht, htl, by rw [atI_some h he, ht]⟩
noncomputable def bindN (gs : List Gl) (ts : List Ti) (xs : List Pl) (x y : Int) (t : Nat) : Nat → Int
  | 0 => 0
  | k + 1 => bindN gs ts xs x y t k + (if 0 ≤ atI xs (stepX x k) (stepY y k) then bondI gs ts t k (atI xs (stepX x k) (stepY y k)).toNat else 0)
theorem strI_nonneg {gs : List Gl} {ts : List Ti} {xs : List Pl} (hV : Valid gs ts xs) (v : Int) : 0 ≤ strI gs v := by
  unfold strI
  split
  · decide
  · split
    · decide
    · rename_i g hg
      have := (hV.str _ _ hg).1
      omega
theorem bondI_nonneg {gs : List Gl} {ts : List Ti} {xs : List Pl} (hV : Valid gs ts xs) (a d b : Nat) : 0 ≤ bondI gs ts a d b := by
  unfold bondI
  split
  · exact strI_nonneg hV _
  · decide
theorem bindN_bound {gs : List Gl} {ts : List Ti} {xs : List Pl} (hV : Valid gs ts xs) (x y : Int) (t k : Nat) : 0 ≤ bindN gs ts xs x y t k ∧ bindN gs ts xs x y t k ≤ 4 * (k : Int) := by
  induction k with
  | zero => simp [bindN]
  | succ k ih =>
    simp only [bindN]
    have h1 := bondI_nonneg hV t k (atI xs (stepX x k) (stepY y k)).toNat
    have h2 := bondI_le hV t k (atI xs (stepX x k) (stepY y k)).toNat
    split <;> omega
theorem l03Index_at {op p : Nat} {gs : List Gl} {ts : List Ti} {xs : List Pl} {x y r : Int} {w : World} (ha : AsmAt w p op xs) (hV : Valid gs ts xs) (h : placeI xs x y = r) :
    Calls Tryz.prog 88 #[.pointer (some ⟨p, op, none⟩), .agg #[.int .i64 x, .int .i64 y]] w fun e w' => e = .returned (.int .i64 r) ∧ Below w.heap.size w w' := by
  rw [← h]; exact l03Index_any p gs ts xs x y w ha hV
set_option maxHeartbeats 1000000 in
theorem l03At_any {op : Nat} (p : Nat) (gs : List Gl) (ts : List Ti) (xs : List Pl) (x y r : Int) (w : World) (ha : AsmAt w p op xs) (hV : Valid gs ts xs) (hr : atI xs x y = r) :
    Calls Tryz.prog 138 #[.pointer (some ⟨p, op, none⟩), .agg #[.int .i64 x, .int .i64 y]] w fun e w' => e = .returned (.int .i64 r) ∧ Below w.heap.size w w' := by
  
  obtain ⟨hlt, ⟨A, n, c, h1, h2⟩⟩ := id ha
  have hl := h2.len
  subst hr
  rcases atI_cases hV x y with ⟨h0, hat⟩ | ⟨k, t, e, h0, he, ht, htl, hat⟩
  · have hatH := Lib.hid hat
    have h0H := Lib.hid h0
    clear hat h0 h2
    go_enter Tryz.func138, Tryz.ntmps138
    go_wp2_with fail
    refine (l03Index_at (ha.below (by exact bel_)) hV h0H.out).mono ?_
    rintro e w1 ⟨rfl, hb1⟩
    go_wp2
    go_ret
    exact ⟨ret_int hatH.out.symm, by exact bel_⟩
  · have hatH := Lib.hid hat
    have h0H := Lib.hid h0
    have hkn : k < n := by rw [← hl]; exact lt_of_get he
    obtain ⟨b, o, rfl, hb, hc⟩ := h2.ptr (by omega)
    obtain ⟨c0, c1, c2⟩ := hc k e he
    rw [ht] at c2
    have hk0 : (0 : Int) ≤ (k : Int) := by omega
    clear hat h0 h2 hc he ht hl
    go_enter Tryz.func138, Tryz.ntmps138
    go_wp2_with fail
    refine (l03Index_at (ha.below (by exact bel_)) hV h0H.out).mono ?_
    rintro e w1 ⟨rfl, hb1⟩
    obtain ⟨chb1, fhb1, shb1, thb1⟩ := bcell hb1
    have k1 := shb1 p (by go_simp)
    have k2 := shb1 b (by go_simp)
    go_wp2
    go_ret
    exact ⟨ret_int hatH.out.symm, by exact bel_⟩
end Go.Proofs.YtmhgjgclclnmaaaGreat
/- Walks: with what strength a tile binds at a point, by the program and by the reference. -/

namespace Go.Proofs.YtmhgjgclclnmaaaGreat
open Go.RowKit Go.Shelf
attribute [local go_sem] BelowBy.cell BelowBy.cell_drew stillUpon givesUpon BelowBy.cell_drew2 BelowBy.cell_drew3

theorem bindN_succ_none {gs : List Gl} {ts : List Ti} {xs : List Pl} {x y S : Int} {t k : Nat} (hS : bindN gs ts xs x y t k = S) (h : atI xs (stepX x k) (stepY y k) = -1) : bindN gs ts xs x y t (k + 1) = S := by
  simp only [bindN]; rw [hS, h, if_neg (by decide)]; omega
theorem bindN_succ_some {gs : List Gl} {ts : List Ti} {xs : List Pl} {x y S r : Int} {t k t2 : Nat} (hS : bindN gs ts xs x y t k = S) (h : atI xs (stepX x k) (stepY y k) = t2) (hr : bondI gs ts t k t2 = r) : bindN gs ts xs x y t (k + 1) = S + r := by
  simp only [bindN]; rw [hS, h, if_pos (by omega)]
  have : ((t2 : Nat) : Int).toNat = t2 := by omega
  rw [this, hr]
set_option maxRecDepth 100000 in
set_option maxHeartbeats 2000000 in
theorem l06Binding_any {opa : Nat} (p pa : Nat) (gs : List Gl) (ts : List Ti) (xs : List Pl) (x y : Int) (t : Nat) (w : World) (hs : SetAt w p 0 gs ts) (ha : AsmAt w pa opa xs) (hV : Valid gs ts xs) (ht : t < ts.length) (hx : -900 ≤ x ∧ x ≤ 900) (hy : -900 ≤ y ∧ y ≤ 900) :
    Calls Tryz.prog 89 #[.pointer (some ⟨p, 0, none⟩), .pointer (some ⟨pa, opa, none⟩), .agg #[.int .i64 x, .int .i64 y], .int .i64 (t : Int)] w fun e w' => e = .returned (.int .i64 (bindN gs ts xs x y t 4)) ∧ Below w.heap.size w w' := by
  
  go_enter Tryz.func89, Tryz.ntmps89
  go_wp2
  go_loopg [10, 9] 4 (fun r c s wr => ∃ k : Nat, k + r = 4 ∧ c = .int .i64 (k : Int) ∧ s = .int .i64 (bindN gs ts xs x y t k) ∧ Below w.heap.size w wr ∧ wr.cell? ⟨w.heap.size, 0, none⟩ = some (.int .i64 x) ∧ wr.cell? ⟨w.heap.size, 1, none⟩ = some (.int .i64 y) ∧ w.heap.size < wr.heap.size)
  case atStart => exact ⟨0, by omega, rfl, rfl, by exact bel_, by go_simp, by go_simp, by simp⟩
  case round =>
    obtain ⟨k, hk, rfl, rfl, hbw, y2, y3, hsz⟩ := hrel
    have hbd := bindN_bound hV x y t k
    by_cases hlt : k < 4
    · have hltI : (k : Int) < 4 := by omega
      have hk0 : (0 : Int) ≤ (k : Int) := by omega
      obtain ⟨S, hS⟩ : ∃ S, bindN gs ts xs x y t k = S := ⟨_, rfl⟩
      rw [hS] at hbd
      rw [hS]
      have hSH := Lib.hid hS
      clear hS
      have hb0 : 0 ≤ S := hbd.1
      have hb1' : S ≤ 1000 := by have := hbd.2; omega
      clear hbd
      rcases atI_cases hV (stepX x k) (stepY y k) with ⟨_, hat⟩ | ⟨i, t2, e, _, _, _, ht2, hat⟩
      · have hatH := Lib.hid hat
        have hnx := Lib.hid (bindN_succ_none hSH.out hat)
        clear hat
        go_wp2_with (first
          | (go_at_call 87; refine (l01Step_any _ _ _ _ ⟨by omega, by omega⟩ ⟨by omega, by omega⟩ ⟨by omega, by omega⟩).mono ?_; rintro e w1 ⟨rfl, hb1⟩; obtain ⟨chb1, fhb1, shb1, thb1⟩ := bcell hb1; (try have bhb10 := shb1 (w.heap.size) (by go_simp)))
          | (go_at_call 138; refine (l03At_any _ gs ts xs _ _ _ _ (ha.below (by exact bel_)) hV hatH.out).mono ?_; rintro e w2 ⟨rfl, hb2⟩; obtain ⟨chb2, fhb2, shb2, thb2⟩ := bcell hb2; (try have bhb20 := shb2 (w.heap.size) (by go_simp))))
        go_roundg (4 - (k + 1))
        case measure => omega
        case rel => exact ⟨k + 1, by omega, by go_num, by rw [hnx.out], by exact bel_, by go_simp, by go_simp, by go_simp⟩
      · obtain ⟨r, hr⟩ : ∃ r, bondI gs ts t k t2 = r := ⟨_, rfl⟩
        have hatH := Lib.hid hat
        have hrH := Lib.hid hr
        have hnx := Lib.hid (bindN_succ_some hSH.out hat hr)
        have hr0 : 0 ≤ r := by rw [← hr]; exact bondI_nonneg hV _ _ _
        have hr4 : r ≤ 4 := by rw [← hr]; exact bondI_le hV _ _ _
        have ht20 : (0 : Int) ≤ (t2 : Int) := by omega
        clear hat hr
        go_wp2_with (first
          | (go_at_call 87; refine (l01Step_any _ _ _ _ ⟨by omega, by omega⟩ ⟨by omega, by omega⟩ ⟨by omega, by omega⟩).mono ?_; rintro e w1 ⟨rfl, hb1⟩; obtain ⟨chb1, fhb1, shb1, thb1⟩ := bcell hb1; (try have bhb10 := shb1 (w.heap.size) (by go_simp)))
          | (go_at_call 138; refine (l03At_any _ gs ts xs _ _ _ _ (ha.below (by exact bel_)) hV hatH.out).mono ?_; rintro e w2 ⟨rfl, hb2⟩; obtain ⟨chb2, fhb2, shb2, thb2⟩ := bcell hb2; (try have bhb20 := shb2 (w.heap.size) (by go_simp)))
          | (go_at_call 100; refine (l02Bond_at t t2 rfl rfl (hs.below (by exact bel_)) hV ht ht2 hlt hrH.out).mono ?_; rintro e w3 ⟨rfl, hb3⟩; obtain ⟨chb3, fhb3, shb3, thb3⟩ := bcell hb3; (try have bhb30 := shb3 (w.heap.size) (by go_simp))))
        go_roundg (4 - (k + 1))
        case measure => omega
        case rel => exact ⟨k + 1, by omega, by go_num, by rw [hnx.out], by exact bel_, by go_simp, by go_simp, by go_simp⟩
    · obtain rfl : k = 4 := by omega
      go_wp2
      go_ret
      exact ⟨rfl, hbw⟩
theorem l06Binding_at {p pa opa : Nat} {gs : List Gl} {ts : List Ti} {xs : List Pl} {x y ti r : Int} (t : Nat) {w : World} (h0 : ti = t) (hs : SetAt w p 0 gs ts) (ha : AsmAt w pa opa xs) (hV : Valid gs ts xs) (ht : t < ts.length) (hx : -900 ≤ x ∧ x ≤ 900) (hy : -900 ≤ y ∧ y ≤ 900) (hr : bindN gs ts xs x y t 4 = r) :
    Calls Tryz.prog 89 #[.pointer (some ⟨p, 0, none⟩), .pointer (some ⟨pa, opa, none⟩), .agg #[.int .i64 x, .int .i64 y], .int .i64 ti] w fun e w' => e = .returned (.int .i64 r) ∧ Below w.heap.size w w' := by
  subst h0 hr; exact l06Binding_any p pa gs ts xs x y t w hs ha hV ht hx hy
end Go.Proofs.YtmhgjgclclnmaaaGreat
/- Small words: a result that is a row of numbers and a code. -/

namespace Go.Proofs.YtmhgjgclclnmaaaGreat
open Go.RowKit Go.Shelf

/-- a row of numbers and a code -/
def IntsRes (w : World) (r : List Int × Int) (e : Ending) (w' : World) : Prop :=
  ∃ A c, e = .returned (.tuple #[.slice A r.1.length c, .int .i64 r.2]) ∧ w'.ownsRow w.heap.size 2 1 (.slice A r.1.length c) r.1.length (r.1.map (Value.int .i64)) ∧ Below w.heap.size w w'
theorem rdI_of {W : World} {base : Nat} {v : Value} {bs : List Int} (h : W.ownsRow base 2 1 v bs.length (bs.map (Value.int .i64))) : ∃ A cap, v = .slice A bs.length cap ∧ RdSl 1 RInt W A bs.length bs := by
  rcases h.2 with ⟨rfl, h0⟩ | ⟨g, cap, cur, rfl, hb, hh, hn, hm, hs, ht⟩
  · exact ⟨none, 0, by rw [h0], rfl, fun hp => by omega⟩
  · refine ⟨_, cap, rfl, rfl, fun hp => ⟨g, 0, rfl, (Array.getElem?_eq_some_iff.1 hh).1, fun k hk => ?_⟩⟩
    have hg : (bs.map (Value.int .i64))[k]? = some (.int .i64 bs[k]) := by simp [hk]
    rw [← ht, List.getElem?_take] at hg
    split at hg
    · simp only [RInt, World.cell?, hh, Nat.zero_add, Nat.mul_one]
      simpa using hg
    · cases hg
theorem IntsRes.of {w w' : World} {r : List Int × Int} {bs : List Int} {c : Int} {v : Value} (h : (bs, c) = r) (hr : w'.ownsRow w.heap.size 2 1 v bs.length (bs.map (Value.int .i64))) (hb : Below w.heap.size w w') : IntsRes w r (.returned (.tuple #[v, .int .i64 c])) w' := by
  subst h
  obtain ⟨A, cap, rfl, _⟩ := rdI_of hr
  exact ⟨A, cap, rfl, hr, hb⟩
theorem rdI {W : World} {base : Nat} {A : Option Addr} {n c : Nat} {bs : List Int} (h : W.ownsRow base 2 1 (.slice A n c) n (bs.map (Value.int .i64))) (hn : n = bs.length := by rfl) : RdSl 1 RInt W A n bs := by
  subst hn
  obtain ⟨A', cap, e, h'⟩ := rdI_of h
  injection e with e1 e2 e3
  subst e1
  exact h'
/-- a number, a row of numbers and a code -/
def FluxRes (w : World) (r : Int × List Int × Int) (e : Ending) (w' : World) : Prop :=
  ∃ A c, e = .returned (.tuple #[.int .i64 r.1, .slice A r.2.1.length c, .int .i64 r.2.2]) ∧ w'.ownsRow w.heap.size 2 1 (.slice A r.2.1.length c) r.2.1.length (r.2.1.map (Value.int .i64)) ∧ Below w.heap.size w w'
theorem FluxRes.of {w w' : World} {r : Int × List Int × Int} {bs : List Int} {a c : Int} {v : Value} (h : (a, bs, c) = r) (hr : w'.ownsRow w.heap.size 2 1 v bs.length (bs.map (Value.int .i64))) (hb : Below w.heap.size w w') : FluxRes w r (.returned (.tuple #[.int .i64 a, v, .int .i64 c])) w' := by
  subst h
  obtain ⟨A, cap, rfl, _⟩ := rdI_of hr
  exact ⟨A, cap, rfl, hr, hb⟩
end Go.Proofs.YtmhgjgclclnmaaaGreat
/- Walks: BindingsOf, the program's and the reference's. -/




namespace Go.Proofs.YtmhgjgclclnmaaaGreat
open Go.RowKit Go.Shelf
attribute [local go_sem] BelowBy.cell BelowBy.cell_drew stillUpon givesUpon BelowBy.cell_drew2 BelowBy.cell_drew3

theorem cell_one_new (w : World) (a : Value) (t : TypeId) : ∀ j u, [a][j]? = some u → (w.alloc (.cells #[a] t)).cell? ((⟨w.heap.size, 0, none⟩ : Addr).add j) = some u := by
  intro j u hj
  match j, hj with
  | 0, hj => simp at hj; subst hj; simp [Addr.add]
  | j + 1, hj => simp at hj
noncomputable def bindOf (gs : List Gl) (ts : List Ti) (xs : List Pl) (e : Pl) : Int := bindN gs ts xs e.x e.y e.t.toNat 4
noncomputable def bindsL (gs : List Gl) (ts : List Ti) (xs : List Pl) (k : Nat) : List Int := (xs.take k).map (bindOf gs ts xs)
theorem bindsL_succ {gs : List Gl} {ts : List Ti} {xs : List Pl} {k : Nat} {e : Pl} (he : xs[k]? = some e) : bindsL gs ts xs (k + 1) = bindsL gs ts xs k ++ [bindOf gs ts xs e] := by
  have hk := lt_of_get he
  have h2 : xs[k] = e := (List.getElem?_eq_some_iff.1 he).2
  unfold bindsL
  rw [List.take_succ_eq_append_getElem hk, List.map_append, h2]; rfl
theorem bindsL_len {gs : List Gl} {ts : List Ti} {xs : List Pl} {k : Nat} (hk : k ≤ xs.length) : (bindsL gs ts xs k).length = k := by
  unfold bindsL; simp; omega
noncomputable def bindsR (gs : List Gl) (ts : List Ti) (xs : List Pl) : List Int × Int := if validAsmB gs ts xs = true then (bindsL gs ts xs xs.length, 0) else ([], 1)
theorem bindsR_no {gs : List Gl} {ts : List Ti} {xs : List Pl} (h : validAsmB gs ts xs = false) : (([], 1) : List Int × Int) = bindsR gs ts xs := by unfold bindsR; rw [h, if_neg (by decide)]
theorem bindsR_yes {gs : List Gl} {ts : List Ti} {xs : List Pl} (h : validAsmB gs ts xs = true) : ((bindsL gs ts xs xs.length, 0) : List Int × Int) = bindsR gs ts xs := by unfold bindsR; rw [h, if_pos rfl]
theorem bindsR_len (gs : List Gl) (ts : List Ti) (xs : List Pl) : (bindsR gs ts xs).1.length ≤ 1073741824 := by
  unfold bindsR
  split
  · rename_i h
    have h3 := (valid_of h).len
    show (bindsL gs ts xs xs.length).length ≤ _
    rw [bindsL_len (Nat.le_refl _)]
    omega
  · simp
/-- the row of the first k -/
theorem row_snoc {w' : World} {B : Nat} {v' : Value} {k : Nat} {gs : List Gl} {ts : List Ti} {xs : List Pl} {e : Pl} {r : Int} (he : xs[k]? = some e) (hr : bindOf gs ts xs e = r) (h : w'.ownsRow B 2 1 v' (k + 1) ((bindsL gs ts xs k).map (Value.int .i64) ++ [.int .i64 r])) : w'.ownsRow B 2 1 v' (k + 1) ((bindsL gs ts xs (k + 1)).map (Value.int .i64)) := by
  rw [bindsL_succ he, List.map_append, hr]; exact h
end Go.Proofs.YtmhgjgclclnmaaaGreat
/- Plain facts: the bonds of all tiles together are twice the bonds. -/

namespace Go.Proofs.YtmhgjgclclnmaaaGreat
open Go.RowKit
def sumB : List Bd → Int
  | [] => 0
  | b :: l => b.s + sumB l
theorem sumB_app (l m : List Bd) : sumB (l ++ m) = sumB l + sumB m := by
  induction l with
  | nil => simp [sumB]
  | cons b l ih => simp only [List.cons_append, sumB, ih]; omega
theorem sumB_take {bs : List Bd} {k : Nat} {b : Bd} (h : bs[k]? = some b) : sumB (bs.take (k + 1)) = sumB (bs.take k) + b.s := by
  obtain ⟨hk, rfl⟩ := List.getElem?_eq_some_iff.1 h
  rw [List.take_succ_eq_append_getElem hk, sumB_app]; simp [sumB]
theorem sumB_bound {bs : List Bd} (h : ∀ (k : Nat) (b : Bd), bs[k]? = some b → 0 ≤ b.s ∧ b.s ≤ 4) : 0 ≤ sumB bs ∧ sumB bs ≤ 4 * (bs.length : Int) := by
  induction bs with
  | nil => simp [sumB]
  | cons b l ih =>
    have h0 := h 0 b rfl
    have ih := ih (fun k b hb => h (k + 1) b (by simpa using hb))
    simp only [sumB, List.length_cons]
    omega
def sumI : List Int → Int
  | [] => 0
  | b :: l => b + sumI l
theorem sumI_app (l m : List Int) : sumI (l ++ m) = sumI l + sumI m := by
  induction l with
  | nil => simp [sumI]
  | cons b l ih => simp only [List.cons_append, sumI, ih]; omega
theorem sumI_take {bs : List Int} {k : Nat} {b : Int} (h : bs[k]? = some b) : sumI (bs.take (k + 1)) = sumI (bs.take k) + b := by
  obtain ⟨hk, rfl⟩ := List.getElem?_eq_some_iff.1 h
  rw [List.take_succ_eq_append_getElem hk, sumI_app]; simp [sumI]
/-- sums over the numbers below n -/
def sumN (n : Nat) (f : Nat → Int) : Int := match n with
  | 0 => 0
  | n + 1 => sumN n f + f n
theorem sumN_add (n : Nat) (f g : Nat → Int) : sumN n (fun i => f i + g i) = sumN n f + sumN n g := by
  induction n with
  | zero => simp [sumN]
  | succ n ih => simp only [sumN, ih]; omega
theorem sumN_zero (n : Nat) : sumN n (fun _ => 0) = 0 := by
  induction n with
  | zero => rfl
  | succ n ih => simp only [sumN, ih]; omega
theorem sumN_congr {n : Nat} {f g : Nat → Int} (h : ∀ i, i < n → f i = g i) : sumN n f = sumN n g := by
  induction n with
  | zero => rfl
  | succ n ih => simp only [sumN]; rw [ih (fun i hi => h i (by omega)), h n (by omega)]
theorem sumN_swap (n m : Nat) (f : Nat → Nat → Int) : sumN n (fun i => sumN m (fun k => f i k)) = sumN m (fun k => sumN n (fun i => f i k)) := by
  induction n with
  | zero => simp only [sumN]; rw [sumN_zero]
  | succ n ih => simp only [sumN]; rw [ih, sumN_add]
theorem sumN_one {n j : Nat} {f : Nat → Int} (hj : j < n) (h : ∀ i, i < n → i ≠ j → f i = 0) : sumN n f = f j := by
  induction n with
  | zero => omega
  | succ n ih =>
    simp only [sumN]
    by_cases e : j = n
    · subst e
      rw [sumN_congr (g := fun _ => 0) (fun i hi => h i (by omega) (by omega)), sumN_zero]; omega
    · rw [ih (by omega) (fun i hi hne => h i (by omega) hne), h n (by omega) (fun e' => e e'.symm)]; omega
theorem sumN_none {n : Nat} {f : Nat → Int} (h : ∀ i, i < n → f i = 0) : sumN n f = 0 := by
  rw [sumN_congr (g := fun _ => 0) h, sumN_zero]
/-- the bond of place i in a direction -/
noncomputable def dirB (gs : List Gl) (ts : List Ti) (xs : List Pl) (i d : Nat) : Int := match xs[i]? with
  | none => 0
  | some e => if 0 ≤ atI xs (stepX e.x d) (stepY e.y d) then bondI gs ts e.t.toNat d (atI xs (stepX e.x d) (stepY e.y d)).toNat else 0
/-- the bond of two places in a direction -/
def pairB (gs : List Gl) (ts : List Ti) (xs : List Pl) (i k d : Nat) : Int := match xs[i]?, xs[k]? with
  | some e, some o => if o.x = stepX e.x d ∧ o.y = stepY e.y d then bondI gs ts e.t.toNat d o.t.toNat else 0
  | _, _ => 0
theorem oppN_oppN {d : Nat} (h : d < 4) : oppN (oppN d) = d := by unfold oppN; split <;> split <;> omega
theorem bondI_symm (gs : List Gl) (ts : List Ti) (a b d : Nat) (h : d < 4) : bondI gs ts a d b = bondI gs ts b (oppN d) a := by
  unfold bondI
  rw [oppN_oppN h]
  by_cases e : sideI ts a d = sideI ts b (oppN d)
  · rw [if_pos e, if_pos e.symm, e]
  · rw [if_neg e, if_neg (fun e' => e e'.symm)]
theorem pairB_symm (gs : List Gl) (ts : List Ti) (xs : List Pl) (i k d : Nat) (h : d < 4) : pairB gs ts xs i k d = pairB gs ts xs k i (oppN d) := by
  unfold pairB
  cases hi : xs[i]? with
  | none => cases hk : xs[k]? <;> rfl
  | some e =>
    cases hk : xs[k]? with
    | none => rfl
    | some o =>
      simp only
      have hiff : (o.x = stepX e.x d ∧ o.y = stepY e.y d) ↔ (e.x = stepX o.x (oppN d : Nat) ∧ e.y = stepY o.y (oppN d : Nat)) := by
        have : d = 0 ∨ d = 1 ∨ d = 2 ∨ d = 3 := by omega
        rcases this with rfl | rfl | rfl | rfl <;> simp [stepX, stepY, oppN] <;> omega
      by_cases hc : o.x = stepX e.x d ∧ o.y = stepY e.y d
      · rw [if_pos hc, if_pos (hiff.1 hc), bondI_symm gs ts _ _ _ h]
      · rw [if_neg hc, if_neg (fun h' => hc (hiff.2 h'))]
theorem pairB_sum {gs : List Gl} {ts : List Ti} {xs : List Pl} (hV : Valid gs ts xs) (i d : Nat) : sumN xs.length (fun k => pairB gs ts xs i k d) = dirB gs ts xs i d := by
  unfold dirB
  cases hi : xs[i]? with
  | none => exact sumN_none fun k _ => by unfold pairB; rw [hi]
  | some e =>
    simp only
    rcases placeI_is xs (stepX e.x d) (stepY e.y d) with ⟨hp, hno⟩ | ⟨k, o, hp, ho, hox, hoy⟩
    · rw [atI_none hp, if_neg (by decide)]
      refine sumN_none fun k _ => ?_
      unfold pairB
      rw [hi]
      cases hk : xs[k]? with
      | none => rfl
      | some o => simp only; rw [if_neg (hno k o hk)]
    · obtain ⟨t, ht, htl⟩ := hV.ti k o ho
      rw [atI_some hp ho, ht, if_pos (by omega)]
      rw [sumN_one (lt_of_get ho) (fun j hj hne => ?_)]
      · unfold pairB
        rw [hi, ho]
        simp only
        rw [if_pos ⟨hox, hoy⟩, ht]
      · unfold pairB
        rw [hi]
        cases hj' : xs[j]? with
        | none => rfl
        | some o' =>
          simp only
          rw [if_neg]
          rintro ⟨h1, h2⟩
          rcases Nat.lt_trichotomy j k with h | h | h
          · have := (lessPt_iff _ _ _ _).1 (hV.sorted j k o' o h hj' ho); omega
          · exact hne h
          · have := (lessPt_iff _ _ _ _).1 (hV.sorted k j o o' h ho hj'); omega
theorem dirB_opp {gs : List Gl} {ts : List Ti} {xs : List Pl} (hV : Valid gs ts xs) {d : Nat} (h : d < 4) : sumN xs.length (fun i => dirB gs ts xs i d) = sumN xs.length (fun i => dirB gs ts xs i (oppN d)) := by
  have h1 : sumN xs.length (fun i => dirB gs ts xs i d) = sumN xs.length (fun i => sumN xs.length (fun k => pairB gs ts xs i k d)) := sumN_congr fun i _ => (pairB_sum hV i d).symm
  have h2 : sumN xs.length (fun i => dirB gs ts xs i (oppN d)) = sumN xs.length (fun k => sumN xs.length (fun i => pairB gs ts xs k i (oppN d))) := sumN_congr fun i _ => (pairB_sum hV i _).symm
  rw [h1, h2, sumN_swap]
  exact sumN_congr fun k _ => sumN_congr fun i _ => pairB_symm gs ts xs i k d h
theorem bindOf_dirs {gs : List Gl} {ts : List Ti} {xs : List Pl} {i : Nat} {e : Pl} (he : xs[i]? = some e) : bindOf gs ts xs e = dirB gs ts xs i 0 + dirB gs ts xs i 1 + dirB gs ts xs i 2 + dirB gs ts xs i 3 := by
  unfold bindOf dirB
  rw [he]
  simp only [bindN]
  omega
theorem bdS_nonneg {gs : List Gl} {ts : List Ti} {xs : List Pl} (hV : Valid gs ts xs) (x : NbT xs) : 0 ≤ bdS gs ts x := bondI_nonneg hV _ _ _
theorem sumB_nb {gs : List Gl} {ts : List Ti} {xs : List Pl} (hV : Valid gs ts xs) (i d : Nat) (hd : d < 4) : sumB (bdL gs ts (nb xs i d)) = dirB gs ts xs i d := by
  unfold dirB
  cases hi : xs[i]? with
  | none =>
    have : nb xs i d = [] := by unfold nb; simp only [hi]
    rw [this]; rfl
  | some e =>
    simp only
    rcases atI_cases hV (stepX e.x d) (stepY e.y d) with ⟨h, hat⟩ | ⟨k, t, o, h, ho, ht, htl, hat⟩
    · rw [nb_none hi h, hat, if_neg (by decide)]; rfl
    · rw [nb_some hi hd h (lt_of_get ho), hat, if_pos (by omega)]
      have hS : bdS gs ts (xs := xs) ⟨(i, k, d), lt_of_get hi, lt_of_get ho, hd⟩ = bondI gs ts e.t.toNat d t := by
        unfold bdS tileN
        simp only [hi, ho, ht, Int.toNat_natCast]
      have h0 := bondI_nonneg hV e.t.toNat d t
      have ht' : ((t : Nat) : Int).toNat = t := by omega
      rw [ht']
      unfold bdL
      by_cases hp : 0 < bondI gs ts e.t.toNat d t
      · simp [hS, hp, sumB]
      · simp [hS, hp, sumB]; omega
theorem sumB_bonds {gs : List Gl} {ts : List Ti} {xs : List Pl} (hV : Valid gs ts xs) (n : Nat) : sumB (bdL gs ts (nbAll xs n)) = sumN n (fun i => dirB gs ts xs i 1 + dirB gs ts xs i 0) := by
  induction n with
  | zero => rfl
  | succ n ih =>
    have happ : ∀ (l m : List (NbT xs)), bdL gs ts (l ++ m) = bdL gs ts l ++ bdL gs ts m := fun l m => by unfold bdL; exact List.filterMap_append
    simp only [nbAll, sumN, happ, sumB_app, ih, sumB_nb hV n 1 (by decide), sumB_nb hV n 0 (by decide)]
theorem sumI_binds (gs : List Gl) (ts : List Ti) (xs : List Pl) (k : Nat) (hk : k ≤ xs.length) : sumI (bindsL gs ts xs k) = sumN k (fun i => dirB gs ts xs i 0 + dirB gs ts xs i 1 + dirB gs ts xs i 2 + dirB gs ts xs i 3) := by
  induction k with
  | zero => rfl
  | succ k ih =>
    have he := List.getElem?_eq_getElem (show k < xs.length by omega)
    rw [bindsL_succ he, sumI_app, ih (by omega)]
    simp only [sumN, sumI]
    rw [bindOf_dirs he]
    omega
/-- each bond is counted at both of its tiles -/
theorem twice {gs : List Gl} {ts : List Ti} {xs : List Pl} (hV : Valid gs ts xs) : sumI (bindsL gs ts xs xs.length) = 2 * sumB (bondsL gs ts xs) := by
  unfold bondsL
  rw [sumI_binds _ _ _ _ (Nat.le_refl _), sumB_bonds hV]
  have h0 := dirB_opp hV (d := 0) (by decide)
  have h1 := dirB_opp hV (d := 1) (by decide)
  simp only [sumN_add]
  have e0 : oppN 0 = 2 := rfl
  have e1 : oppN 1 = 3 := rfl
  rw [e0] at h0
  rw [e1] at h1
  omega
end Go.Proofs.YtmhgjgclclnmaaaGreat
/- Walks: fractions of two numbers that are not negative. -/


namespace Go.Proofs.YtmhgjgclclnmaaaGreat
open Go.RowKit Go.Shelf
attribute [local go_sem] BelowBy.cell BelowBy.cell_drew stillUpon givesUpon BelowBy.cell_drew2 BelowBy.cell_drew3

theorem gcd_step {a b g : Nat} (h : Nat.gcd a b = g) : Nat.gcd b (a % b) = g := by
  rw [← h, Nat.gcd_comm a b, Nat.gcd_rec b a, Nat.gcd_comm]
/-- the fraction of two numbers -/
def fracN (a b : Nat) : Nat := a / Nat.gcd a b
def fracD (a b : Nat) : Nat := b / Nat.gcd a b
theorem fracN_le (a b : Nat) : fracN a b ≤ a := Nat.div_le_self _ _
theorem fracD_le (a b : Nat) : fracD a b ≤ b := Nat.div_le_self _ _
theorem fracD_pos {a b : Nat} (h : 0 < b) : 0 < fracD a b := Nat.div_pos (Nat.gcd_le_right _ h) (Nat.gcd_pos_of_pos_right _ h)
theorem frac_gcd {a b : Nat} (h : 0 < b) : Nat.gcd (fracN a b) (fracD a b) = 1 := Nat.gcd_div_gcd_div_gcd_of_pos_right h
/-- a fraction and OK -/
def FrRes (w : World) (a b : Nat) (e : Ending) (w' : World) : Prop := e = .returned (.tuple #[.agg #[.int .i64 (fracN a b : Nat), .int .i64 (fracD a b : Nat)], .int .i64 0]) ∧ Below w.heap.size w w'
theorem quo_nat {a b : Nat} : ((a : Int) / (b : Int)) = ((a / b : Nat) : Int) := by omega
end Go.Proofs.YtmhgjgclclnmaaaGreat
/- Walks: MeanBinding, the program's and the reference's. -/


namespace Go.Proofs.YtmhgjgclclnmaaaGreat
open Go.RowKit Go.Shelf
attribute [local go_sem] BelowBy.cell BelowBy.cell_drew stillUpon givesUpon BelowBy.cell_drew2 BelowBy.cell_drew3

set_option maxRecDepth 100000 in
set_option maxHeartbeats 1000000 in
theorem strengthOf_any (A : Option Addr) (n c : Nat) (bs : List Bd) (w : World) (h : RdSl 3 RBd w A n bs) (hn : n ≤ 100000) (hs : ∀ (k : Nat) (b : Bd), bs[k]? = some b → 0 ≤ b.s ∧ b.s ≤ 4) :
    Calls Tryz.prog 107 #[.slice A n c] w fun e w' => e = .returned (.int .i64 (sumB bs)) ∧ Below w.heap.size w w' := by
  have hl := h.len
  go_enter Tryz.func107, Tryz.ntmps107
  go_wp2
  go_loopg [8, 3] n (fun r x y wr => ∃ k : Nat, k + r = n ∧ x = .int .i64 (k : Int) ∧ y = .int .i64 (sumB (bs.take k)) ∧ Below w.heap.size w wr)
  case atStart => exact ⟨0, by omega, rfl, rfl, bl_refl _⟩
  case round =>
    obtain ⟨k, hk, rfl, rfl, hbw⟩ := hrel
    have hb := sumB_bound (bs := bs.take k) (fun j b hj => hs j b (by rw [List.getElem?_take] at hj; split at hj; exact hj; cases hj))
    have htl : (bs.take k).length ≤ k := List.length_take_le _ _
    have r1 := h.below RBd.stable hbw
    by_cases hlt : k < n
    · obtain ⟨b, o, rfl, hb1, hc⟩ := r1.ptr (by omega)
      obtain ⟨e, he⟩ := h.get hlt
      obtain ⟨c0, c1, c2⟩ := hc k e he
      obtain ⟨S, hS⟩ : ∃ S, sumB (bs.take k) = S := ⟨_, rfl⟩
      obtain ⟨e0, e4⟩ := hs k e he
      have hnx := Lib.hid (sumB_take he)
      rw [hS] at hb hnx
      rw [hS]
      obtain ⟨S0, S4⟩ := hb
      have S5 : S ≤ 400000 := by omega
      clear hc he hs h r1 hS S4 htl
      go_wp2
      go_roundg (n - (k + 1))
      case measure => omega
      case rel => exact ⟨k + 1, by omega, by go_num, by rw [hnx.out], by exact bel_⟩
    · obtain rfl : k = n := by omega
      clear r1
      go_wp2
      go_ret
      exact ⟨ret_int (by rw [List.take_of_length_le (by omega)]), hbw⟩
def meanCode (v : Bool) (n : Nat) : Int := if v then (if n = 0 then 3 else 0) else 1
noncomputable def meanR (gs : List Gl) (ts : List Ti) (xs : List Pl) : Nat × Nat × Int :=
  if meanCode (validAsmB gs ts xs) xs.length ≠ 0 then (0, 0, meanCode (validAsmB gs ts xs) xs.length)
  else (fracN (2 * sumB (bondsL gs ts xs)).toNat xs.length, fracD (2 * sumB (bondsL gs ts xs)).toNat xs.length, 0)
def FracRes (w : World) (r : Nat × Nat × Int) (e : Ending) (w' : World) : Prop := e = .returned (.tuple #[.agg #[.int .i64 (r.1 : Int), .int .i64 (r.2.1 : Int)], .int .i64 r.2.2]) ∧ Below w.heap.size w w'
theorem FracRes.of {w : World} {r : Nat × Nat × Int} {a b : Nat} {c : Int} {w' : World} (h : (a, b, c) = r) (hb : Below w.heap.size w w') : FracRes w r (.returned (.tuple #[.agg #[.int .i64 (a : Int), .int .i64 (b : Int)], .int .i64 c])) w' := by
  subst h; exact ⟨rfl, hb⟩
theorem bonds_s {gs : List Gl} {ts : List Ti} {xs : List Pl} (hV : Valid gs ts xs) : ∀ (k : Nat) (b : Bd), (bondsL gs ts xs)[k]? = some b → 0 ≤ b.s ∧ b.s ≤ 4 := fun k b h => by
  have := bondsL_at hV h; omega
end Go.Proofs.YtmhgjgclclnmaaaGreat
/- Walks: numbers in a list; numbers that rise. -/


namespace Go.Proofs.YtmhgjgclclnmaaaGreat
open Go.RowKit Go.Shelf
attribute [local go_sem] BelowBy.cell BelowBy.cell_drew stillUpon givesUpon BelowBy.cell_drew2 BelowBy.cell_drew3

def hasB (ps : List Int) (v : Int) : Bool := ps.any fun e => e == v
theorem hasB_true {ps : List Int} {k : Nat} {v : Int} (h : ps[k]? = some v) : hasB ps v = true := by
  unfold hasB; rw [List.any_eq_true]; exact ⟨v, List.mem_of_getElem? h, by simp⟩
theorem hasB_false {ps : List Int} {v : Int} (h : ∀ (j : Nat) (e : Int), ps[j]? = some e → e ≠ v) : hasB ps v = false := by
  unfold hasB; rw [List.any_eq_false]
  intro e he
  obtain ⟨j, hj, rfl⟩ := List.mem_iff_getElem.1 he
  simpa using h j _ (List.getElem?_eq_getElem hj)
def IdxRes (w : World) (b : Bool) (e : Ending) (w' : World) : Prop := ∃ r : Int, e = .returned (.int .i64 r) ∧ decide (0 ≤ r) = b ∧ w = w'
set_option maxHeartbeats 1000000 in
theorem IndexI_any (A : Option Addr) (n c : Nat) (ps : List Int) (v : Int) (w : World) (h : RdSl 1 RInt w A n ps) (hn : n ≤ 1073741824) :
    Calls Tryz.prog 157 #[.slice A n c, .int .i64 v] w (IdxRes w (hasB ps v)) := by
  have hl := h.len
  go_enter Tryz.func157, Tryz.ntmps157
  go_wp2
  go_loopg [8] n (fun r x wr => ∃ k : Nat, k + r = n ∧ x = .int .i64 (k : Int) ∧ Hid (∀ (j : Nat) (e : Int), j < k → ps[j]? = some e → e ≠ v) ∧ w = wr)
  case atStart => exact ⟨0, by omega, rfl, Lib.hid (fun j e hj => by omega), rfl⟩
  case round =>
    obtain ⟨k, hk, rfl, hno, rfl⟩ := hrel
    by_cases hlt : k < n
    · obtain ⟨b, o, rfl, hb1, hc⟩ := h.ptr (by omega)
      obtain ⟨e, he⟩ := h.get hlt
      have c0 := hc k e he
      unfold RInt at c0
      simp only [Nat.mul_one] at c0
      have heH := Lib.hid he
      clear hc he h hl
      by_cases hev : v = e
      · subst hev
        go_wp2
        go_ret
        exact ⟨_, rfl, by rw [hasB_true heH.out]; simp, rfl⟩
      · have hv : (v == e) = false := by simpa using hev
        have hevH := Lib.hid hev
        clear hev
        go_wp2
        go_roundg (n - (k + 1))
        case measure => omega
        case rel => exact ⟨k + 1, by omega, by go_num, Lib.hid (fun j e' hj he' => by
          rcases Nat.lt_succ_iff_lt_or_eq.1 hj with hj | rfl
          · exact hno.out j e' hj he'
          · rw [heH.out] at he'; obtain rfl := Option.some.inj he'; exact fun e0 => hevH.out e0.symm), rfl⟩
    · obtain rfl : k = n := by omega
      clear h
      go_wp2
      go_ret
      exact ⟨_, rfl, by rw [hasB_false fun j e he => hno.out j e (by rw [← hl]; exact lt_of_get he) he]; simp, rfl⟩
theorem ContainsI_any (A : Option Addr) (n c : Nat) (ps : List Int) (v : Int) (w : World) (h : RdSl 1 RInt w A n ps) (hn : n ≤ 1073741824) :
    Calls Tryz.prog 111 #[.slice A n c, .int .i64 v] w fun e w' => e = .returned (.bool (hasB ps v)) ∧ w = w' := by
  have hH := Lib.hid h
  clear h
  go_enter Tryz.func111, Tryz.ntmps111
  go_wp2_with fail
  refine (IndexI_any _ _ _ ps _ _ hH.out hn).mono ?_
  rintro e w1 ⟨r, rfl, hr, rfl⟩
  have hrH := Lib.hid hr
  clear hr
  go_wp2
  go_ret
  exact ⟨ret_bool hrH.out, rfl⟩
/-- numbers rise within bounds -/
def okRise (lo hi : Int) (ps : List Int) (j : Nat) : Bool := match ps[j]? with
  | none => true
  | some k => inB k lo hi && (match j with
    | 0 => true
    | i + 1 => match ps[i]? with
      | none => true
      | some d => decide (d < k))
def risesB (lo hi : Int) (ps : List Int) : Bool := allB ps.length (okRise lo hi ps)
theorem okRise_no {lo hi : Int} {ps : List Int} {k : Nat} {e : Int} (he : ps[k]? = some e) (h : inB e lo hi = false) : okRise lo hi ps k = false := by
  unfold okRise; rw [he]; simp [h]
theorem okRise_zero {lo hi : Int} {ps : List Int} {e : Int} (he : ps[0]? = some e) (h : inB e lo hi = true) : okRise lo hi ps 0 = true := by
  unfold okRise; rw [he]; simp [h]
theorem okRise_succ {lo hi : Int} {ps : List Int} {k : Nat} {d e : Int} (he : ps[k + 1]? = some e) (hd : ps[k]? = some d) (h : inB e lo hi = true) : okRise lo hi ps (k + 1) = decide (d < e) := by
  unfold okRise; rw [he]; simp [h, hd]
set_option maxHeartbeats 2000000 in
theorem isPart_any (A B : Option Addr) (q ca n c : Nat) (ps : List Int) (w : World) (h : RdSl 1 RInt w B n ps) (hn : n ≤ 1073741824) (hq : q ≤ 1073741824) :
    Calls Tryz.prog 54 #[.agg #[.slice A q ca], .slice B n c] w fun e w' => e = .returned (.bool (risesB 0 ((q : Int) - 1) ps)) ∧ Below w.heap.size w w' := by
  have hl := h.len
  obtain ⟨hi, hhi⟩ : ∃ hi, hi = (q : Int) - 1 := ⟨_, rfl⟩
  rw [← hhi]
  have hhiH := Lib.hid hhi
  clear hhi
  go_enter Tryz.func54, Tryz.ntmps54
  go_wp2
  go_loopg [9] n (fun r x wr => ∃ k : Nat, k + r = n ∧ x = .int .i64 (k : Int) ∧ Hid (∀ j, j < k → okRise 0 hi ps j = true) ∧ Below w.heap.size w wr ∧ wr.cell? ⟨w.heap.size, 0, none⟩ = some (.slice A q ca) ∧ w.heap.size < wr.heap.size)
  case atStart => exact ⟨0, by omega, rfl, Lib.hid (fun j hj => by omega), by exact bel_, by go_simp, by simp⟩
  case round =>
    obtain ⟨k, hk, rfl, hok, hbw, hbox, hsz⟩ := hrel
    have h' := h.below RInt.stable hbw
    by_cases hlt : k < n
    · obtain ⟨b, o, rfl, hb, hc⟩ := h'.ptr (by omega)
      obtain ⟨e, he⟩ := h.get hlt
      have c0 := hc k e he
      simp only [RInt, Nat.mul_one] at c0
      have heH := Lib.hid he
      cases hv1 : inB e 0 hi
      · have hno := Lib.hid (okRise_no he hv1)
        have hv1H := Lib.hid hv1
        clear he hc h h' hv1
        go_wp2_with (go_at_call 101; refine (isIndex_any _ _ _ (by omega) (by omega)).mono ?_; rintro e w' ⟨rfl, rfl⟩; rw [← hhiH.out, hv1H.out])
        go_ret
        exact ⟨ret_bool (allB_false (n := ps.length) (by omega) hno.out).symm, hbw⟩
      · have hv1H := Lib.hid hv1
        cases k with
        | zero =>
          have hyes := Lib.hid (okRise_zero he hv1)
          simp only [Nat.add_zero] at c0
          clear he hc h h' hv1
          go_wp2_with (go_at_call 101; refine (isIndex_any _ _ _ (by omega) (by omega)).mono ?_; rintro e w' ⟨rfl, rfl⟩; rw [← hhiH.out, hv1H.out])
          go_roundg (n - (0 + 1))
          case measure => omega
          case rel => exact ⟨0 + 1, by omega, by go_num, Lib.hid (fun j hj => (show j = 0 by omega) ▸ hyes.out), hbw, hbox, hsz⟩
        | succ i =>
          obtain ⟨d, hd⟩ := h.get (k := i) (by omega)
          have d0 := hc i d hd
          simp only [RInt, Nat.mul_one] at d0
          have hi' : i < n := by omega
          have hpos : (0 : Int) < (i : Int) + 1 := by omega
          have hI1 : (i : Int) + 1 < (n : Int) := by omega
          have hI0 : (0 : Int) ≤ (i : Int) + 1 := by omega
          have hrs := okRise_succ he hd hv1
          by_cases hv3 : d < e
          · have hge : decide (e ≤ d) = false := decide_eq_false (by omega)
            have hyes := Lib.hid (show okRise 0 hi ps (i + 1) = true by rw [hrs]; exact decide_eq_true hv3)
            clear he hd hc h h' hrs hv3 hv1
            go_wp2_with (go_at_call 101; refine (isIndex_any _ _ _ (by omega) (by omega)).mono ?_; rintro e w' ⟨rfl, rfl⟩; rw [← hhiH.out, hv1H.out])
            go_roundg (n - ((i + 1) + 1))
            case measure => omega
            case rel => exact ⟨(i + 1) + 1, by omega, by go_num, Lib.hid (fun j hj => by
              rcases Nat.lt_succ_iff_lt_or_eq.1 hj with hj | rfl
              · exact hok.out j hj
              · exact hyes.out), hbw, hbox, hsz⟩
          · have hge : decide (e ≤ d) = true := decide_eq_true (by omega)
            have hno := Lib.hid (show okRise 0 hi ps (i + 1) = false by rw [hrs]; exact decide_eq_false hv3)
            clear he hd hc h h' hrs hv3 hv1
            go_wp2_with (go_at_call 101; refine (isIndex_any _ _ _ (by omega) (by omega)).mono ?_; rintro e w' ⟨rfl, rfl⟩; rw [← hhiH.out, hv1H.out])
            go_ret
            exact ⟨ret_bool (allB_false (n := ps.length) (by omega) hno.out).symm, hbw⟩
    · obtain rfl : k = n := by omega
      clear h h'
      go_wp2
      go_ret
      exact ⟨ret_bool (by unfold risesB; rw [hl, allB_true hok.out]), hbw⟩
end Go.Proofs.YtmhgjgclclnmaaaGreat
