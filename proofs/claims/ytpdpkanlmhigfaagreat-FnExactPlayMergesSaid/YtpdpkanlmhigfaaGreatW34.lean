/- Walks: the reference's move of an assembly. -/
import Derived.Test.YtpdpkanlmhigfaaGreatW33
namespace Go.Proofs.YtpdpkanlmhigfaaGreat
open Go.RowKit Go.Shelf
set_option linter.unusedSimpArgs false
set_option linter.unusedVariables false
attribute [local go_sem] BelowBy.cell BelowBy.cell_drew stillUpon givesUpon BelowBy.cell_drew2 BelowBy.cell_drew3

def okMv (dx dy : Int) (xs : List Pl) (k : Nat) : Bool := match xs[k]? with
  | some e => validPt (e.x + dx) (e.y + dy)
  | none => true
theorem okMv_eq {dx dy : Int} {xs : List Pl} {k : Nat} {e : Pl} (h : xs[k]? = some e) : okMv dx dy xs k = validPt (e.x + dx) (e.y + dy) := by unfold okMv; rw [h]
def mvOk (dx dy : Int) (xs : List Pl) : Bool := allB xs.length (okMv dx dy xs)
theorem mvOk_no {dx dy : Int} {xs : List Pl} {k : Nat} {e : Pl} (h : xs[k]? = some e) (hv : validPt (e.x + dx) (e.y + dy) = false) : mvOk dx dy xs = false :=
  allB_false (lt_of_get h) ((okMv_eq h).trans hv)
theorem mvL_take_succ {dx dy : Int} {xs : List Pl} {k : Nat} {e : Pl} (h : xs[k]? = some e) : mvL dx dy (xs.take (k + 1)) = mvL dx dy (xs.take k) ++ [⟨e.x + dx, e.y + dy, e.t⟩] := by
  obtain ⟨hk, rfl⟩ := List.getElem?_eq_some_iff.1 h
  unfold mvL
  rw [List.take_succ_eq_append_getElem hk, List.map_append]; rfl
def MvRes (w : World) (dx dy : Int) (xs : List Pl) (e : Ending) (w' : World) : Prop :=
  ∃ B m c', e = .returned (.tuple #[.agg #[.slice B m c'], .bool (mvOk dx dy xs)]) ∧ (mvOk dx dy xs = true → m = xs.length ∧ RdSl 3 RPl w' B m (mvL dx dy xs) ∧ ∀ b o, B = some ⟨b, o, none⟩ → w.heap.size ≤ b) ∧ Below w.heap.size w w'
def MvOwn (w : World) (dx dy : Int) (xs : List Pl) (e : Ending) (w' : World) : Prop :=
  ∃ B m c', e = .returned (.tuple #[.agg #[.slice B m c'], .bool (mvOk dx dy xs)]) ∧ (mvOk dx dy xs = true → m = xs.length ∧ w'.ownsRow w.heap.size 97 3 (.slice B m c') m (plCells (mvL dx dy xs))) ∧ Below w.heap.size w w'
set_option maxRecDepth 100000 in
set_option maxHeartbeats 2000000 in
theorem l03Move_own {op : Nat} (p : Nat) (xs : List Pl) (dx dy : Int) (w : World) (ha : AsmAt w p op xs) (hn : xs.length ≤ 100000) (hxy : ∀ (k : Nat) (e : Pl), xs[k]? = some e → (-60 ≤ e.x ∧ e.x ≤ 60) ∧ (-60 ≤ e.y ∧ e.y ≤ 60)) (hdx : -120 ≤ dx ∧ dx ≤ 120) (hdy : -120 ≤ dy ∧ dy ≤ 120) :
    Calls Tryz.prog 75 #[.pointer (some ⟨p, op, none⟩), .agg #[.int .i64 dx, .int .i64 dy]] w (MvOwn w dx dy xs) := by
  obtain ⟨i0, hi, hz0, hz1, hz2⟩ := info_parts infoPl
  obtain ⟨hlt, ⟨A, n, c, h1, h2⟩⟩ := id ha
  have hl := h2.len
  have hxyH := Lib.hid hxy
  have haH := Lib.hid ha
  have h2H := Lib.hid h2
  clear hxy ha h2
  go_enter Tryz.func75, Tryz.ntmps75
  go_wp2
  go_loopg [7] n (fun r x wr => ∃ (k : Nat) (v : Value), k + r = n ∧ x = .int .i64 (k : Int) ∧ Hid (wr.ownsRow (w.heap.size + 3) 97 3 v k (plCells (mvL dx dy (xs.take k)))) ∧ Hid (∀ j, j < k → okMv dx dy xs j = true) ∧ Hid (Below w.heap.size w wr) ∧ w.heap.size + 2 < wr.heap.size ∧ wr.cell? ⟨w.heap.size, 0, none⟩ = some (.int .i64 dx) ∧ wr.cell? ⟨w.heap.size, 1, none⟩ = some (.int .i64 dy) ∧ wr.cell? ⟨w.heap.size + 1, 0, none⟩ = some (.slice none 0 0) ∧ wr.frozen? ⟨w.heap.size + 1, 0, none⟩ = false ∧ wr.cell? ⟨w.heap.size + 1 + 1, 0, none⟩ = some v ∧ wr.frozen? ⟨w.heap.size + 1 + 1, 0, none⟩ = false)
  case atStart => exact ⟨0, .slice none 0 0, by omega, rfl, Lib.hid (World.ownsRow_nil _ _ _ _), Lib.hid (fun j hj => by omega), Lib.hid (by exact bel_), by simp, by go_simp, by go_simp, by go_simp, by go_simp, by go_simp, by go_simp⟩
  case round =>
    obtain ⟨k, v, hk, rfl, hrw, hok, hbw, hsz, z0, z1, z3, k3, z4, k4⟩ := hrel
    have hpr : p < wr.heap.size := Nat.lt_of_lt_of_le hlt hbw.out.size
    have g1 := (hbw.out.cell (p := ⟨p, op, none⟩) hlt).trans h1
    have m0 : w.heap.size < wr.heap.size := by omega
    have m1 : w.heap.size + 1 < wr.heap.size := by omega
    have m2 : w.heap.size + 1 + 1 < wr.heap.size := by omega
    have n1 : ¬ w.heap.size + 1 = p := by omega
    have n2 : ¬ w.heap.size + 1 + 1 = p := by omega
    by_cases hkn : k < n
    · obtain ⟨e, he⟩ : ∃ e, xs[k]? = some e := ⟨_, List.getElem?_eq_getElem (by omega)⟩
      obtain ⟨ex, ey⟩ := hxyH.out k e he
      obtain ⟨b, o, hAe, hb, hc⟩ := (h2H.out.below RPl.stable hbw.out).ptr (by omega)
      obtain ⟨c0, c1, c2⟩ := hc k e he
      subst hAe
      have heH := Lib.hid he
      clear he hc
      cases hvp : validPt (e.x + dx) (e.y + dy)
      · have hvH := Lib.hid hvp
        clear hvp
        go_wp2_with fail
        refine (l01Point_any _ _ _).mono ?_
        rw [hvH.out]
        rintro _ w2 ⟨rfl, hb2⟩
        have x3 : w2.cell? ⟨w.heap.size + 1, 0, none⟩ = some (.slice none 0 0) := (hb2.cell (p := ⟨w.heap.size + 1, 0, none⟩) (by simp; omega)).trans (by go_simp)
        have x4 : w2.frozen? ⟨w.heap.size + 1, 0, none⟩ = false := (hb2.frozen (p := ⟨w.heap.size + 1, 0, none⟩) (by simp; omega)).trans (by go_simp)
        have hB2 : Below w.heap.size w w2 := hbw.out.trans (Below.mono (show Below wr.heap.size wr w2 by exact bel_) hbw.out.size)
        have hB2H := Lib.hid hB2
        clear hB2 hb2
        go_wp2
        refine bodyPost_ret (v := .tuple #[.agg #[.slice none 0 0], .bool false]) (by simp only [results, Tryz.results75]; go_simp) rfl ?_
        have hno := mvOk_no heH.out hvH.out
        exact ⟨none, 0, 0, by rw [hno], (fun h => by rw [hno] at h; cases h), hB2H.out.setCell (p := ⟨w.heap.size + 1, 0, none⟩) (by simp) _⟩
      · have hvH := Lib.hid hvp
        clear hvp
        go_wp2_with fail
        refine (l01Point_any _ _ _).mono ?_
        rw [hvH.out]
        rintro _ w2 ⟨rfl, hb2⟩
        have s0 : wr.heap.size < w2.heap.size := Nat.lt_of_lt_of_le (by simp) hb2.size
        have d0 : w2.cell? ⟨wr.heap.size, 0, none⟩ = some (.int .i64 (e.x + dx)) := (hb2.cell (p := ⟨wr.heap.size, 0, none⟩) (by simp)).trans (by go_simp)
        have d1 : w2.cell? ⟨wr.heap.size, 1, none⟩ = some (.int .i64 (e.y + dy)) := (hb2.cell (p := ⟨wr.heap.size, 1, none⟩) (by simp)).trans (by go_simp)
        have d2 : w2.cell? ⟨wr.heap.size, 2, none⟩ = some (.int .i64 e.t) := (hb2.cell (p := ⟨wr.heap.size, 2, none⟩) (by simp)).trans (by go_simp)
        have x0 : w2.cell? ⟨w.heap.size, 0, none⟩ = some (.int .i64 dx) := (hb2.cell (p := ⟨w.heap.size, 0, none⟩) (by simp; omega)).trans (by go_simp)
        have x1 : w2.cell? ⟨w.heap.size, 1, none⟩ = some (.int .i64 dy) := (hb2.cell (p := ⟨w.heap.size, 1, none⟩) (by simp; omega)).trans (by go_simp)
        have x3 : w2.cell? ⟨w.heap.size + 1, 0, none⟩ = some (.slice none 0 0) := (hb2.cell (p := ⟨w.heap.size + 1, 0, none⟩) (by simp; omega)).trans (by go_simp)
        have x4 : w2.frozen? ⟨w.heap.size + 1, 0, none⟩ = false := (hb2.frozen (p := ⟨w.heap.size + 1, 0, none⟩) (by simp; omega)).trans (by go_simp)
        have x5 : w2.cell? ⟨w.heap.size + 1 + 1, 0, none⟩ = some v := (hb2.cell (p := ⟨w.heap.size + 1 + 1, 0, none⟩) (by simp; omega)).trans (by go_simp)
        have x6 : w2.frozen? ⟨w.heap.size + 1 + 1, 0, none⟩ = false := (hb2.frozen (p := ⟨w.heap.size + 1 + 1, 0, none⟩) (by simp; omega)).trans (by go_simp)
        have hB2 : Below w.heap.size w w2 := hbw.out.trans (Below.mono (show Below wr.heap.size wr w2 by exact bel_) hbw.out.size)
        have hB2H := Lib.hid hB2
        have hrow' := ownsRow_below (hrw.out.alloc _) hb2
        have hsz2 : w.heap.size + 3 ≤ w2.heap.size := by omega
        clear hB2 hb2 c0 c1 c2
        go_wp2_with (at_builtin; refine wpList_append_own _ rfl _ _ 29 rfl (w.heap.size + 3) 97 i0 (.agg #[.int .i64 0, .int .i64 0, .int .i64 0]) 3 24 Tryz.underlying29 hi hz0 hz1 hz2 rfl (by decide) _ _ _ rfl (hrow'.alloc _) ⟨w2.heap.size, 0, none⟩ 1 1 [.int .i64 (e.x + dx), .int .i64 (e.y + dy), .int .i64 e.t] rfl rfl (cell_three_new _ _ _ _ _) (fun x hx => by simp at hx; rcases hx with rfl | rfl | rfl <;> rfl) (by unfold maxLen; omega) (by omega) (by simp; omega) ?_; intro v' w3 hown' hgrow _; obtain ⟨g', cap', rfl⟩ := ownsRow_succ hown'; have hfar : Below (w.heap.size + 3) w2 w3 := ((Below.refl (w.heap.size + 3) w2).alloc (by omega) _).grown hgrow (by simp; omega) (fun b' hb' => (hrow'.lt b' hb').1); have u0 := (hfar.cell (p := ⟨w.heap.size, 0, none⟩) (by simp)).trans x0; have u1 := (hfar.cell (p := ⟨w.heap.size, 1, none⟩) (by simp)).trans x1; have u3 := (hfar.cell (p := ⟨w.heap.size + 1, 0, none⟩) (by simp)).trans x3; have u4 := (hfar.frozen (p := ⟨w.heap.size + 1, 0, none⟩) (by simp)).trans x4; have u5 := (hfar.cell (p := ⟨w.heap.size + 1 + 1, 0, none⟩) (by simp)).trans x5; have u6 := (hfar.frozen (p := ⟨w.heap.size + 1 + 1, 0, none⟩) (by simp)).trans x6)
        go_wp2
        go_roundg (n - (k + 1))
        case measure => omega
        case rel => exact ⟨k + 1, _, by omega, by go_num, Lib.hid (by
            rw [mvL_take_succ heH.out, plCells_snoc]
            exact ownsRow_setCell_below hown' (a := ⟨w.heap.size + 1 + 1, 0, none⟩) (by simp) _), Lib.hid (fun j hj => by
            rcases Nat.lt_succ_iff_lt_or_eq.1 hj with hj | rfl
            · exact hok.out j hj
            · exact (okMv_eq heH.out).trans hvH.out), Lib.hid ((hB2H.out.trans (hfar.mono (by omega))).setCell (p := ⟨w.heap.size + 1 + 1, 0, none⟩) (by simp; omega) _), by have := hfar.size; simp; omega, by go_simp, by go_simp, by go_simp, by go_simp, by go_simp, by go_simp⟩
    · obtain rfl : k = n := by omega
      have hyes : mvOk dx dy xs = true := allB_true (by rw [hl]; exact hok.out)
      have hyesH := Lib.hid hyes
      clear hyes
      have hml : (mvL dx dy xs).length = k := by rw [mvL_len, hl]
      have hrw1 := hrw.out
      rw [List.take_of_length_le (by omega), ← hml] at hrw1
      obtain ⟨B, c', rfl, hrd⟩ := rdP_of_row hrw1
      rw [hml] at hrd hrw1 z4
      have hrw2 := ownsRow_setCell_below hrw1 (a := ⟨w.heap.size + 1, 0, none⟩) (by simp) (.slice B k c')
      have hrw2H := Lib.hid hrw2
      clear hrd hrw1 hrw2 hrw
      go_wp2
      refine bodyPost_ret (v := .tuple #[.agg #[.slice B k c'], .bool true]) (by simp only [results, Tryz.results75]; go_simp) rfl ?_
      refine ⟨B, k, c', by rw [hyesH.out], fun _ => ⟨hl.symm, ?_⟩, hbw.out.setCell (p := ⟨w.heap.size + 1, 0, none⟩) (by simp) _⟩
      exact ⟨hrw2H.out.1, hrw2H.out.2.imp id (fun ⟨g, cap, cur, hv, hb, r⟩ => ⟨g, cap, cur, hv, Nat.le_trans (by simp) hb, r⟩)⟩
theorem l03Move_any {op : Nat} (p : Nat) (xs : List Pl) (dx dy : Int) (w : World) (ha : AsmAt w p op xs) (hn : xs.length ≤ 100000) (hxy : ∀ (k : Nat) (e : Pl), xs[k]? = some e → (-60 ≤ e.x ∧ e.x ≤ 60) ∧ (-60 ≤ e.y ∧ e.y ≤ 60)) (hdx : -120 ≤ dx ∧ dx ≤ 120) (hdy : -120 ≤ dy ∧ dy ≤ 120) :
    Calls Tryz.prog 75 #[.pointer (some ⟨p, op, none⟩), .agg #[.int .i64 dx, .int .i64 dy]] w (MvRes w dx dy xs) := by
  refine (l03Move_own p xs dx dy w ha hn hxy hdx hdy).mono ?_
  rintro e w' ⟨B, m, c', rfl, h, hb⟩
  refine ⟨B, m, c', rfl, fun ho => ?_, hb⟩
  obtain ⟨rfl, hrow⟩ := h ho
  have hml : (mvL dx dy xs).length = xs.length := mvL_len dx dy xs
  have hrow2 := hrow
  rw [← hml] at hrow2
  obtain ⟨A2, c2, hv, hrd⟩ := rdP_of_row hrow2
  injection hv with h1 h2 h3
  subst h1
  rw [hml] at hrd
  exact ⟨rfl, hrd, fun b o e => by subst e; exact (hrow.lt b rfl).1⟩
end Go.Proofs.YtpdpkanlmhigfaaGreat
