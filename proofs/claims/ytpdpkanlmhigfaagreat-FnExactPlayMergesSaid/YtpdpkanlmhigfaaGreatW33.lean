/- Walks: an assembly copied; moved by a step. -/
import Derived.Test.YtpdpkanlmhigfaaGreatW24
import Derived.Test.YtpdpkanlmhigfaaGreatHTo
import Derived.Test.YtpdpkanlmhigfaaGreatPlC
import Derived.Lib.LazyBuf
import Derived.Lib.SliceRun
namespace Go.Proofs.YtpdpkanlmhigfaaGreat
open Go.RowKit Go.Shelf
set_option linter.unusedSimpArgs false
set_option linter.unusedVariables false
attribute [local go_sem] BelowBy.cell BelowBy.cell_drew stillUpon givesUpon BelowBy.cell_drew2 BelowBy.cell_drew3

set_option maxHeartbeats 1000000 in
theorem cloneAssembly_any (A : Option Addr) (n c : Nat) (bs : List Pl) (w : World) (h : RdSl 3 RPl w A n bs) (hn : n ≤ 100000) :
    Calls Tryz.prog 32 #[.agg #[.slice A n c]] w fun e w' => ∃ B c', e = .returned (.agg #[.slice B n c']) ∧ w'.ownsRow (w.heap.size + 2) 97 3 (.slice B n c') n (plCells bs) ∧ Below w.heap.size w w' := by
  have hl := h.len
  have hH := Lib.hid h
  clear h
  go_enter Tryz.func32, Tryz.ntmps32
  go_wp2_with fail
  refine (CloneP_any A n c bs _ (hH.out.below RPl.stable (by exact bel_)) hn).mono ?_
  rintro e w1 ⟨v, rfl, hrow, hb1⟩
  obtain ⟨B, c', rfl, hrd⟩ := rdP_of_row hrow
  rw [hl] at hrow
  rw [hl]
  have hrow1 : w1.ownsRow (w.heap.size + 2) 97 3 (.slice B n c') n (plCells bs) := by simpa using hrow
  have hrowH := Lib.hid hrow1
  have l1 : w.heap.size + 1 < w1.heap.size := Nat.lt_of_lt_of_le (by go_simp) hb1.size
  have y1 : w1.cell? ⟨w.heap.size + 1, 0, none⟩ = some (.slice none 0 0) := (hb1.cell (p := ⟨w.heap.size + 1, 0, none⟩) (by go_simp)).trans (by go_simp)
  have hb0 : Below w.heap.size w w1 := by exact bel_
  have hb0H := Lib.hid hb0
  obtain ⟨chb1, fhb1, shb1, thb1⟩ := bcell hb1
  clear hrow hrow1 hrd hb0
  go_wp2
  refine bodyPost_ret (v := .agg #[.slice B n c']) (by simp only [results, Tryz.results32]; go_simp) rfl ?_
  exact ⟨B, c', rfl, ownsRow_setCell_below hrowH.out (a := ⟨w.heap.size + 1, 0, none⟩) (by simp) _, hb0H.out.setCell (p := ⟨w.heap.size + 1, 0, none⟩) (by simp) _⟩
def mvP (dx dy : Int) (e : Pl) : Pl := ⟨e.x + dx, e.y + dy, e.t⟩
def mvL (dx dy : Int) (xs : List Pl) : List Pl := xs.map (mvP dx dy)
theorem mvL_get {dx dy : Int} {xs : List Pl} {k : Nat} {e : Pl} (h : xs[k]? = some e) : (mvL dx dy xs)[k]? = some (mvP dx dy e) := by
  unfold mvL; rw [List.getElem?_map, h]; rfl
theorem mvL_len (dx dy : Int) (xs : List Pl) : (mvL dx dy xs).length = xs.length := by simp [mvL]
set_option maxHeartbeats 2000000 in
theorem moved_own (A : Option Addr) (n c : Nat) (xs : List Pl) (dx dy : Int) (w : World) (h : RdSl 3 RPl w A n xs) (hn : n ≤ 100000) (hxy : ∀ (k : Nat) (e : Pl), xs[k]? = some e → (-60 ≤ e.x ∧ e.x ≤ 60) ∧ (-60 ≤ e.y ∧ e.y ≤ 60)) (hdx : -120 ≤ dx ∧ dx ≤ 120) (hdy : -120 ≤ dy ∧ dy ≤ 120) :
    Calls Tryz.prog 63 #[.agg #[.slice A n c], .agg #[.int .i64 dx, .int .i64 dy]] w fun e w' => ∃ B c', e = .returned (.agg #[.slice B n c']) ∧ w'.ownsRow w.heap.size 97 3 (.slice B n c') n (plCells (mvL dx dy xs)) ∧ Below w.heap.size w w' := by
  have hl := h.len
  have hH := Lib.hid h
  have hxyH := Lib.hid hxy
  clear h hxy
  go_enter Tryz.func63, Tryz.ntmps63
  go_wp2_with fail
  refine (cloneAssembly_any A n c xs _ (hH.out.below RPl.stable (by exact bel_)) hn).mono ?_
  rintro e w1 ⟨B, c', rfl, hrow, hb1⟩
  have hrow1 : w1.ownsRow (w.heap.size + 3) 97 3 (.slice B n c') n (plCells xs) := ⟨hrow.1, hrow.2.imp id (fun ⟨g, cap, cur, hv, hb, r⟩ => ⟨g, cap, cur, hv, Nat.le_trans (by simp) hb, r⟩)⟩
  have hs1 : w.heap.size + 3 ≤ w1.heap.size := by have := hb1.size; simp at this; omega
  have hb0 : Below w.heap.size w w1 := by exact bel_
  have y1 : w1.cell? ⟨w.heap.size + 1, 0, none⟩ = some (.int .i64 dx) := (hb1.cell (p := ⟨w.heap.size + 1, 0, none⟩) (by go_simp)).trans (by go_simp)
  have y2 : w1.cell? ⟨w.heap.size + 1, 1, none⟩ = some (.int .i64 dy) := (hb1.cell (p := ⟨w.heap.size + 1, 1, none⟩) (by go_simp)).trans (by go_simp)
  have y3 : w1.cell? ⟨w.heap.size + 1 + 1, 0, none⟩ = some (.slice none 0 0) := (hb1.cell (p := ⟨w.heap.size + 1 + 1, 0, none⟩) (by go_simp)).trans (by go_simp)
  have k3 : w1.frozen? ⟨w.heap.size + 1 + 1, 0, none⟩ = false := by
    obtain ⟨_, f, _, _⟩ := bcell hb1
    rw [f _ _ (by go_simp)]; go_simp
  have hrowH := Lib.hid hrow1
  have hb0H := Lib.hid hb0
  clear hrow hrow1 hb0 hb1
  have l1 : w.heap.size + 1 < w1.heap.size := by omega
  have l2 : w.heap.size + 1 + 1 < w1.heap.size := by omega
  go_wp2
  go_loopg [12] n (fun r x wr => ∃ (k : Nat) (ys : List Pl), k + r = n ∧ x = .int .i64 (k : Int) ∧ Hid (ys.length = n ∧ (∀ j e, j < k → xs[j]? = some e → ys[j]? = some (mvP dx dy e)) ∧ (∀ j, k ≤ j → ys[j]? = xs[j]?)) ∧ Hid (wr.ownsRow (w.heap.size + 3) 97 3 (.slice B n c') n (plCells ys)) ∧ Hid (∀ g : Nat, (Value.slice B n c').ownBlock = some g → g < w1.heap.size) ∧ Hid (Below w.heap.size w wr) ∧ w1.heap.size < wr.heap.size ∧ wr.cell? ⟨w1.heap.size, 0, none⟩ = some (.slice B n c') ∧ wr.cell? ⟨w.heap.size + 1, 0, none⟩ = some (.int .i64 dx) ∧ wr.cell? ⟨w.heap.size + 1, 1, none⟩ = some (.int .i64 dy) ∧ wr.cell? ⟨w.heap.size + 1 + 1, 0, none⟩ = some (.slice none 0 0) ∧ wr.frozen? ⟨w.heap.size + 1 + 1, 0, none⟩ = false)
  case atStart => exact ⟨0, xs, by omega, rfl, Lib.hid ⟨hl, fun j e hj => by omega, fun j _ => rfl⟩, Lib.hid (hrowH.out.alloc _), Lib.hid (fun g hg => (hrowH.out.lt g hg).2), Lib.hid (hb0H.out.alloc (by omega) _), by simp, by go_simp, by go_simp, by go_simp, by go_simp, by go_simp⟩
  case round =>
    obtain ⟨k, ys, hk, rfl, hys, hrw, hgb, hbw, hsz, z0, z1, z2, z3, zk⟩ := hrel
    clear y1 y2 y3 k3
    by_cases hkn : k < n
    · obtain ⟨g, cap, hv, hg1, hg2⟩ : ∃ g cap, Value.slice B n c' = .slice (some ⟨g, 0, none⟩) n cap ∧ w.heap.size + 3 ≤ g ∧ g < wr.heap.size := by
        rcases hrw.out.2 with ⟨_, h0⟩ | ⟨g, cap, cur, hv, hb, hg, _⟩
        · omega
        · exact ⟨g, cap, hv, hb, (Array.getElem?_eq_some_iff.1 hg).1⟩
      injection hv with hv1 hv2 hv3
      subst hv1 hv3
      obtain ⟨e, he⟩ : ∃ e, xs[k]? = some e := ⟨_, List.getElem?_eq_getElem (by omega)⟩
      obtain ⟨ex, ey⟩ := hxyH.out k e he
      have hye := hys.out.2.2 k (Nat.le_refl _)
      rw [he] at hye
      obtain ⟨p0, p1, p2⟩ := plCells_get ys k e hye
      have c0 := (hrw.out.cellAt (k * 3) (by omega)).trans p0
      have c1 := (hrw.out.cellAt (k * 3 + 1) (by omega)).trans p1
      have f0 := hrw.out.frozenAt (k * 3)
      have f1 := hrw.out.frozenAt (k * 3 + 1)
      have hgw := hgb.out g rfl
      have heH := Lib.hid he
      have hyeH := Lib.hid hye
      clear he hye p0 p1 p2
      have n1 : ¬ g = w1.heap.size := by omega
      have n2 : ¬ g = w.heap.size + 1 := by omega
      have n3 : ¬ g = w.heap.size + 1 + 1 := by omega
      have m1 : w.heap.size + 1 < wr.heap.size := by omega
      have m2 : w.heap.size + 1 + 1 < wr.heap.size := by omega
      go_wp2
      refine wp_region_ord [(0, .q), (1, .q), (2, .q), (3, .q), (4, .q), (5, .q), (6, .q), (7, .q), (8, .q), (9, .q), (10, .g), (11, .q), (12, .q), (13, .b)] (by kernel_rfl) (by kernel_rfl) ?_
      simp only [pick, List.filterMap_cons, List.filterMap_nil, List.getElem?_toArray, List.getElem?_cons_zero, List.getElem?_cons_succ, Option.map_some]
      repeat (first
        | ((with_reducible refine wpD_p (fun K hK => ?_)); go_simp; refine hK _ ?_; clear hK K)
        | ((with_reducible refine wpD_q (fun K hK => ?_)); go_simp; (first | refine hK _ ?_ | (go_bits; refine hK _ ?_) | (go_bits; go_simp; refine hK _ ?_)); clear hK K)
        | ((with_reducible refine wpD_g (fun K hK => ?_)); go_simp; refine hK _ _ ?_; clear hK K)
        | ((with_reducible refine wpD_g (fun K hK => ?_)); go_simp; refine ⟨Grew.of_alloc _, hK _ _ ?_⟩; clear hK K)
        | ((with_reducible refine wpD_g (fun K hK => ?_)); go_simp; go_at_call 91; refine (plus_any _ _ _ _ _ ⟨by omega, by omega⟩ ⟨by omega, by omega⟩ ⟨by omega, by omega⟩ ⟨by omega, by omega⟩).mono ?_; rintro e w2 ⟨rfl, hb2⟩; refine ⟨_, rfl, hb2, hK _ _ ?_⟩; clear hK K; obtain ⟨chb2, fhb2, shb2, thb2⟩ := bcell hb2))
      have hrw2 := ownsRow_below hrw.out.drew hb2
      have q0 := (hrw2.cellAt (k * 3) (by omega)).trans (plCells_get ys k e hyeH.out).1
      have q1 := (hrw2.cellAt (k * 3 + 1) (by omega)).trans (plCells_get ys k e hyeH.out).2.1
      have f2 := hrw2.frozenAt (k * 3)
      have f3 := hrw2.frozenAt (k * 3 + 1)
      have hrw2H := Lib.hid hrw2
      have hsz2 : w1.heap.size < w2.heap.size := Nat.lt_of_lt_of_le hsz (by have := hb2.size; simpa using this)
      have x0 : w2.cell? ⟨w1.heap.size, 0, none⟩ = some (.slice (some ⟨g, 0, none⟩) n c') := (hb2.cell (p := ⟨w1.heap.size, 0, none⟩) (by simpa using hsz)).trans (by go_simp)
      have x1 : w2.cell? ⟨w.heap.size + 1, 0, none⟩ = some (.int .i64 dx) := (hb2.cell (p := ⟨w.heap.size + 1, 0, none⟩) (by simpa using m1)).trans (by go_simp)
      have x2 : w2.cell? ⟨w.heap.size + 1, 1, none⟩ = some (.int .i64 dy) := (hb2.cell (p := ⟨w.heap.size + 1, 1, none⟩) (by simpa using m1)).trans (by go_simp)
      have x3 : w2.cell? ⟨w.heap.size + 1 + 1, 0, none⟩ = some (.slice none 0 0) := (hb2.cell (p := ⟨w.heap.size + 1 + 1, 0, none⟩) (by simpa using m2)).trans (by go_simp)
      have x4 : w2.frozen? ⟨w.heap.size + 1 + 1, 0, none⟩ = false := (hb2.frozen (p := ⟨w.heap.size + 1 + 1, 0, none⟩) (by simpa using m2)).trans (by go_simp)
      have hbw2 : Below w.heap.size w w2 := hbw.out.trans (Below.mono (show Below wr.heap.size wr w2 by exact bel_) hbw.out.size)
      have hbw2H := Lib.hid hbw2
      clear hrw2 hbw2 hb2 chb2 fhb2 shb2 thb2
      repeat (first | ((with_reducible refine wpD_p (fun K hK => ?_)); go_simp; refine hK _ ?_; clear hK K) | ((with_reducible refine wpD_q (fun K hK => ?_)); go_simp; (first | refine hK _ ?_ | (go_bits; refine hK _ ?_) | (go_bits; go_simp; refine hK _ ?_)); clear hK K))
      with_reducible refine wpD_b (fun K hK => ?_)
      go_simp
      refine hK _ _ ?_
      clear hK K
      with_reducible refine wpD_nil ?_
      go_wp2
      go_roundg (n - (k + 1))
      case measure => omega
      case rel => exact ⟨k + 1, ys.set k ⟨e.x + dx, e.y + dy, e.t⟩, by omega, by go_num, Lib.hid ⟨by rw [List.length_set]; exact hys.out.1, fun j d hj hd => by
          rcases Nat.lt_succ_iff_lt_or_eq.1 hj with hj | rfl
          · rw [List.getElem?_set_ne (by omega)]; exact hys.out.2.1 j d hj hd
          · rw [heH.out] at hd
            obtain rfl := Option.some.inj hd
            rw [List.getElem?_set_self (by rw [hys.out.1]; exact hkn)]; rfl, fun j hj => by
          rw [List.getElem?_set_ne (by omega)]; exact hys.out.2.2 j (by omega)⟩, Lib.hid (by
          rw [← plCells_set ys k e _ _ hyeH.out]
          exact ((hrw2H.out.stored (k * 3) _).1.stored (k * 3 + 1) _).1), hgb, Lib.hid ((hbw2H.out.setCell (p := ⟨g, k * 3, none⟩) (by simp; omega) _).setCell (p := ⟨g, k * 3 + 1, none⟩) (by simp; omega) _), by simp; omega, by go_simp, by go_simp, by go_simp, by go_simp, by go_simp⟩
    · obtain rfl : k = n := by omega
      have hyl : ys = mvL dx dy xs := by
        apply List.ext_getElem?
        intro j
        rcases Nat.lt_or_ge j k with hj | hj
        · obtain ⟨e, he⟩ : ∃ e, xs[j]? = some e := ⟨_, List.getElem?_eq_getElem (by omega)⟩
          rw [hys.out.2.1 j e hj he, mvL_get he]
        · rw [List.getElem?_eq_none (by rw [hys.out.1]; exact hj), List.getElem?_eq_none (by rw [mvL_len]; omega)]
      have hylH := Lib.hid hyl
      clear hyl
      go_wp2
      refine bodyPost_ret (v := .agg #[.slice B k c']) (by simp only [results, Tryz.results63]; go_simp) rfl ?_
      refine ⟨B, c', rfl, ?_, hbw.out.setCell (p := ⟨w.heap.size + 1 + 1, 0, none⟩) (by simp; omega) _⟩
      have hrw2 := ownsRow_setCell_below hrw.out (a := ⟨w.heap.size + 1 + 1, 0, none⟩) (by simp) (.slice B k c')
      rw [hylH.out] at hrw2
      exact ⟨hrw2.1, hrw2.2.imp id (fun ⟨g, cap, cur, hv, hb, r⟩ => ⟨g, cap, cur, hv, Nat.le_trans (by simp) hb, r⟩)⟩
theorem moved_any (A : Option Addr) (n c : Nat) (xs : List Pl) (dx dy : Int) (w : World) (h : RdSl 3 RPl w A n xs) (hn : n ≤ 100000) (hxy : ∀ (k : Nat) (e : Pl), xs[k]? = some e → (-60 ≤ e.x ∧ e.x ≤ 60) ∧ (-60 ≤ e.y ∧ e.y ≤ 60)) (hdx : -120 ≤ dx ∧ dx ≤ 120) (hdy : -120 ≤ dy ∧ dy ≤ 120) :
    Calls Tryz.prog 63 #[.agg #[.slice A n c], .agg #[.int .i64 dx, .int .i64 dy]] w fun e w' => ∃ B c', e = .returned (.agg #[.slice B n c']) ∧ RdSl 3 RPl w' B n (mvL dx dy xs) ∧ Below w.heap.size w w' := by
  refine (moved_own A n c xs dx dy w h hn hxy hdx hdy).mono ?_
  rintro e w' ⟨B, c', rfl, hrow, hb⟩
  have hml : (mvL dx dy xs).length = n := by rw [mvL_len, h.len]
  rw [← hml] at hrow
  obtain ⟨A2, c2, hv, hrd⟩ := rdP_of_row hrow
  injection hv with h1 h2 h3
  subst h1
  rw [hml] at hrd
  exact ⟨B, c', rfl, hrd, hb⟩
end Go.Proofs.YtpdpkanlmhigfaaGreat
