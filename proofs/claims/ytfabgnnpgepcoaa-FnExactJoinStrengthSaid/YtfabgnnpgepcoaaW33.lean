/- Walks: an assembly copied; moved by a step. -/
import Derived.Test.YtfabgnnpgepcoaaW24
import Derived.Test.YtfabgnnpgepcoaaHTo
import Derived.Lib.LazyBuf
import Derived.Lib.SliceRun
namespace Go.Proofs.Ytfabgnnpgepcoaa
open Go.RowKit Go.Shelf
set_option linter.unusedSimpArgs false
set_option linter.unusedVariables false
attribute [local go_sem] BelowBy.cell BelowBy.cell_drew stillUpon givesUpon BelowBy.cell_drew2 BelowBy.cell_drew3

def plCells : List Pl → List Value
  | [] => []
  | b :: l => .int .i64 b.x :: .int .i64 b.y :: .int .i64 b.t :: plCells l
theorem plCells_len (l : List Pl) : (plCells l).length = l.length * 3 := by
  induction l with
  | nil => rfl
  | cons b l ih => simp only [plCells, List.length_cons, ih]; omega
theorem plCells_snoc (l : List Pl) (b : Pl) : plCells (l ++ [b]) = plCells l ++ [.int .i64 b.x, .int .i64 b.y, .int .i64 b.t] := by
  induction l with
  | nil => rfl
  | cons a l ih => simp [plCells, ih]
theorem plCells_one (bs : List Pl) : ∀ u ∈ plCells bs, u.oneCell' = true := by
  induction bs with
  | nil => simp [plCells]
  | cons b l ih =>
    intro u hu
    simp only [plCells, List.mem_cons] at hu
    rcases hu with rfl | rfl | rfl | hu
    · rfl
    · rfl
    · rfl
    · exact ih u hu
theorem plCells_get : ∀ (bs : List Pl) (k : Nat) (e : Pl), bs[k]? = some e → (plCells bs)[k * 3]? = some (.int .i64 e.x) ∧ (plCells bs)[k * 3 + 1]? = some (.int .i64 e.y) ∧ (plCells bs)[k * 3 + 2]? = some (.int .i64 e.t)
  | [], k, e, h => by simp at h
  | b :: bs, 0, e, h => by
    simp at h
    subst h
    simp [plCells]
  | b :: bs, k + 1, e, h => by
    have := plCells_get bs k e (by simpa using h)
    have h3 : (k + 1) * 3 = k * 3 + 1 + 1 + 1 := by omega
    rw [h3]
    simpa [plCells, Nat.add_assoc] using this
theorem plCells_set : ∀ (bs : List Pl) (k : Nat) (e : Pl) (x y : Int), bs[k]? = some e → ((plCells bs).set (k * 3) (.int .i64 x)).set (k * 3 + 1) (.int .i64 y) = plCells (bs.set k ⟨x, y, e.t⟩)
  | [], k, e, x, y, h => by simp at h
  | b :: bs, 0, e, x, y, h => by
    simp at h
    subst h
    simp [plCells]
  | b :: bs, k + 1, e, x, y, h => by
    have := plCells_set bs k e x y (by simpa using h)
    have h3 : (k + 1) * 3 = k * 3 + 1 + 1 + 1 := by omega
    rw [h3]
    simpa [plCells, Nat.add_assoc] using this
theorem plCells_of_rd {w : World} {b o : Nat} {xs : List Pl} (h : ∀ k e, xs[k]? = some e → RPl w b (o + k * 3) e) : ∀ j u, (plCells xs)[j]? = some u → w.cell? ((⟨b, o, none⟩ : Addr).add j) = some u := by
  intro j u hj
  have hlt := (List.getElem?_eq_some_iff.1 hj).1
  rw [plCells_len] at hlt
  obtain ⟨k, hk⟩ : ∃ k, j / 3 = k := ⟨_, rfl⟩
  obtain ⟨e, he⟩ : ∃ e, xs[k]? = some e := ⟨_, List.getElem?_eq_getElem (by omega)⟩
  obtain ⟨g0, g1, g2⟩ := plCells_get xs _ e he
  obtain ⟨c0, c1, c2⟩ := h _ e he
  rw [Addr.add_lit]
  have : j = k * 3 ∨ j = k * 3 + 1 ∨ j = k * 3 + 2 := by omega
  rcases this with rfl | rfl | rfl
  · rw [← Option.some.inj (g0.symm.trans hj)]; exact c0
  · rw [← Option.some.inj (g1.symm.trans hj), ← Nat.add_assoc]; exact c1
  · rw [← Option.some.inj (g2.symm.trans hj), ← Nat.add_assoc]; exact c2
theorem rdP_of_row {W : World} {base : Nat} {T : TypeId} {v : Value} {bs : List Pl} (h : W.ownsRow base T 3 v bs.length (plCells bs)) : ∃ A cap, v = .slice A bs.length cap ∧ RdSl 3 RPl W A bs.length bs := by
  rcases h.2 with ⟨rfl, h0⟩ | ⟨g, cap, cur, rfl, hb, hh, hn, hm, hs, ht⟩
  · exact ⟨none, 0, by rw [h0], rfl, fun hp => by omega⟩
  · refine ⟨_, cap, rfl, rfl, fun hp => ⟨g, 0, rfl, (Array.getElem?_eq_some_iff.1 hh).1, fun k hk => ?_⟩⟩
    have hg := plCells_get bs k _ (List.getElem?_eq_getElem hk)
    rw [← ht] at hg
    have hcell : ∀ j u, (cur.toList.take (bs.length * 3))[j]? = some u → W.cell? ⟨g, j, none⟩ = some u := fun j u hj => by
      rw [List.getElem?_take] at hj
      split at hj
      · simp only [World.cell?, hh]
        simpa using hj
      · cases hj
    rw [Nat.zero_add]
    exact ⟨hcell _ _ hg.1, hcell _ _ hg.2.1, hcell _ _ hg.2.2⟩
def OwnPl (w : World) (bs : List Pl) (e : Ending) (w' : World) : Prop := ∃ v, e = .returned v ∧ w'.ownsRow w.heap.size 112 3 v bs.length (plCells bs) ∧ Below w.heap.size w w'
set_option maxRecDepth 100000 in
set_option maxHeartbeats 1000000 in
theorem CloneP_any (A : Option Addr) (n c : Nat) (bs : List Pl) (w : World) (h : RdSl 3 RPl w A n bs) (hn : n ≤ 100000) :
    Calls Try.prog 179 #[.slice A n c] w (OwnPl w bs) := by
  obtain ⟨i0, hi, hz0, hz1, hz2⟩ := info_parts infoPl
  have hl := h.len
  have hq := fun W => Lib.run_eql_slice_nil (P := Try.prog) W 39 112 A n c 0 0 Try.underlying39
  cases A with
  | none =>
    have h0 : n = 0 := by
      rcases Nat.eq_zero_or_pos n with h0 | h0
      · exact h0
      · obtain ⟨b, o, e, _⟩ := h.cells h0; cases e
    subst h0
    have hb : bs = [] := List.eq_nil_of_length_eq_zero hl
    subst hb
    clear h
    go_enter Try.func179, Try.ntmps179
    go_wp2
    go_ret
    exact ⟨_, rfl, World.ownsRow_nil _ _ _ _, bl_refl _⟩
  | some ad =>
    have hcl : (∀ (ob : Obj) j u, (plCells bs)[j]? = some u → (w.alloc ob).cell? (ad.add j) = some u) := fun ob j u hj => by
      have hlt := (List.getElem?_eq_some_iff.1 hj).1
      rw [plCells_len] at hlt
      obtain ⟨b, o, e, hb, hc⟩ := h.ptr (by omega)
      injection e with e
      subst e
      refine Eq.trans (World.cell?_alloc_lt _ _ _ ?_) (plCells_of_rd hc j u hj)
      rw [Addr.add_lit]; exact hb
    have hclH := Lib.hid hcl
    have hlH := Lib.hid hl
    have hlen := plCells_len bs
    rw [hl] at hlen
    have hlenH := Lib.hid hlen
    clear h hl hcl hlen
    go_enter Try.func179, Try.ntmps179
    go_wp2_with (at_builtin; go_loud (refine wpList_append_own _ rfl _ _ 39 rfl w.heap.size 112 i0 (.agg #[.int .i64 0, .int .i64 0, .int .i64 0]) 3 24 Try.underlying39 hi hz0 hz1 hz2 rfl (by decide) _ 0 [] rfl (World.ownsRow_made _ _ _ (Nat.le_refl _) (by decide) rfl) ad n c (plCells bs) rfl hlenH.out (fun j u hj => hclH.out _ j u hj) (plCells_one bs) (by unfold maxLen; omega) (by omega) (by simp) ?_); intro v' w3 hown' hgrow _)
    go_ret
    refine ⟨_, rfl, ?_, ((Below.refl w.heap.size w).alloc (Nat.le_refl _) _).grown hgrow (by simp) (fun b' hb' => ?_)⟩
    · rw [hlH.out]
      simpa using hown'
    · have hb2 : some w.heap.size = some b' := hb'
      injection hb2 with hb3
      exact Nat.le_of_eq hb3
set_option maxHeartbeats 1000000 in
theorem cloneAssembly_any (A : Option Addr) (n c : Nat) (bs : List Pl) (w : World) (h : RdSl 3 RPl w A n bs) (hn : n ≤ 100000) :
    Calls Try.prog 168 #[.agg #[.slice A n c]] w fun e w' => ∃ B c', e = .returned (.agg #[.slice B n c']) ∧ w'.ownsRow (w.heap.size + 2) 112 3 (.slice B n c') n (plCells bs) ∧ Below w.heap.size w w' := by
  have hl := h.len
  have hH := Lib.hid h
  clear h
  go_enter Try.func168, Try.ntmps168
  go_wp2_with fail
  refine (CloneP_any A n c bs _ (hH.out.below RPl.stable (by repeat (first | with_reducible exact bl_refl _ | with_reducible assumption | with_reducible refine bl_al ?_ _ | with_reducible refine bl_dr ?_ | with_reducible refine bl_tr ?_ (by assumption) | with_reducible refine bl_set ?_ ?_ _ | with_reducible exact Nat.le_refl _ | omega | (simp only [World.size_alloc, World.size_setCell, World.size_drew] at *; omega) | (dsimp only; omega) | (simp; done) | (simp; omega)))) hn).mono ?_
  rintro e w1 ⟨v, rfl, hrow, hb1⟩
  obtain ⟨B, c', rfl, hrd⟩ := rdP_of_row hrow
  rw [hl] at hrow
  rw [hl]
  have hrow1 : w1.ownsRow (w.heap.size + 2) 112 3 (.slice B n c') n (plCells bs) := by simpa using hrow
  have hrowH := Lib.hid hrow1
  have l1 : w.heap.size + 1 < w1.heap.size := Nat.lt_of_lt_of_le (by go_simp) hb1.size
  have y1 : w1.cell? ⟨w.heap.size + 1, 0, none⟩ = some (.slice none 0 0) := (hb1.cell (p := ⟨w.heap.size + 1, 0, none⟩) (by go_simp)).trans (by go_simp)
  have hb0 : Below w.heap.size w w1 := by repeat (first | with_reducible exact bl_refl _ | with_reducible assumption | with_reducible refine bl_al ?_ _ | with_reducible refine bl_dr ?_ | with_reducible refine bl_tr ?_ (by assumption) | with_reducible refine bl_set ?_ ?_ _ | with_reducible exact Nat.le_refl _ | omega | (simp only [World.size_alloc, World.size_setCell, World.size_drew] at *; omega) | (dsimp only; omega) | (simp; done) | (simp; omega))
  have hb0H := Lib.hid hb0
  obtain ⟨chb1, fhb1, shb1, thb1⟩ := bcell hb1
  clear hrow hrow1 hrd hb0
  go_wp2
  refine bodyPost_ret (v := .agg #[.slice B n c']) (by simp only [results, Try.results168]; go_simp) rfl ?_
  exact ⟨B, c', rfl, ownsRow_setCell_below hrowH.out (a := ⟨w.heap.size + 1, 0, none⟩) (by simp) _, hb0H.out.setCell (p := ⟨w.heap.size + 1, 0, none⟩) (by simp) _⟩
def mvP (dx dy : Int) (e : Pl) : Pl := ⟨e.x + dx, e.y + dy, e.t⟩
def mvL (dx dy : Int) (xs : List Pl) : List Pl := xs.map (mvP dx dy)
theorem mvL_get {dx dy : Int} {xs : List Pl} {k : Nat} {e : Pl} (h : xs[k]? = some e) : (mvL dx dy xs)[k]? = some (mvP dx dy e) := by
  unfold mvL; rw [List.getElem?_map, h]; rfl
theorem mvL_len (dx dy : Int) (xs : List Pl) : (mvL dx dy xs).length = xs.length := by simp [mvL]
set_option maxHeartbeats 2000000 in
theorem moved_any (A : Option Addr) (n c : Nat) (xs : List Pl) (dx dy : Int) (w : World) (h : RdSl 3 RPl w A n xs) (hn : n ≤ 100000) (hxy : ∀ (k : Nat) (e : Pl), xs[k]? = some e → (-60 ≤ e.x ∧ e.x ≤ 60) ∧ (-60 ≤ e.y ∧ e.y ≤ 60)) (hdx : -120 ≤ dx ∧ dx ≤ 120) (hdy : -120 ≤ dy ∧ dy ≤ 120) :
    Calls Try.prog 123 #[.agg #[.slice A n c], .agg #[.int .i64 dx, .int .i64 dy]] w fun e w' => ∃ B c', e = .returned (.agg #[.slice B n c']) ∧ RdSl 3 RPl w' B n (mvL dx dy xs) ∧ Below w.heap.size w w' := by
  have hl := h.len
  have hH := Lib.hid h
  have hxyH := Lib.hid hxy
  clear h hxy
  go_enter Try.func123, Try.ntmps123
  go_wp2_with fail
  refine (cloneAssembly_any A n c xs _ (hH.out.below RPl.stable (by repeat (first | with_reducible exact bl_refl _ | with_reducible assumption | with_reducible refine bl_al ?_ _ | with_reducible refine bl_dr ?_ | with_reducible refine bl_tr ?_ (by assumption) | with_reducible refine bl_set ?_ ?_ _ | with_reducible exact Nat.le_refl _ | omega | (simp only [World.size_alloc, World.size_setCell, World.size_drew] at *; omega) | (dsimp only; omega) | (simp; done) | (simp; omega)))) hn).mono ?_
  rintro e w1 ⟨B, c', rfl, hrow, hb1⟩
  have hrow1 : w1.ownsRow (w.heap.size + 3) 112 3 (.slice B n c') n (plCells xs) := ⟨hrow.1, hrow.2.imp id (fun ⟨g, cap, cur, hv, hb, r⟩ => ⟨g, cap, cur, hv, Nat.le_trans (by simp) hb, r⟩)⟩
  have hs1 : w.heap.size + 3 ≤ w1.heap.size := by have := hb1.size; simp at this; omega
  have hb0 : Below w.heap.size w w1 := by repeat (first | with_reducible exact bl_refl _ | with_reducible assumption | with_reducible refine bl_al ?_ _ | with_reducible refine bl_dr ?_ | with_reducible refine bl_tr ?_ (by assumption) | with_reducible refine bl_set ?_ ?_ _ | with_reducible exact Nat.le_refl _ | omega | (simp only [World.size_alloc, World.size_setCell, World.size_drew] at *; omega) | (dsimp only; omega) | (simp; done) | (simp; omega))
  have y1 : w1.cell? ⟨w.heap.size + 1, 0, none⟩ = some (.int .i64 dx) := (hb1.cell (p := ⟨w.heap.size + 1, 0, none⟩) (by go_simp)).trans (by go_simp)
  have y2 : w1.cell? ⟨w.heap.size + 1, 1, none⟩ = some (.int .i64 dy) := (hb1.cell (p := ⟨w.heap.size + 1, 1, none⟩) (by go_simp)).trans (by go_simp)
  have y3 : w1.cell? ⟨w.heap.size + 1 + 1, 0, none⟩ = some (.slice none 0 0) := (hb1.cell (p := ⟨w.heap.size + 1 + 1, 0, none⟩) (by go_simp)).trans (by go_simp)
  have k3 : w1.frozen? ⟨w.heap.size + 1 + 1, 0, none⟩ = false := by
    obtain ⟨_, f, _, _⟩ := bcell hb1
    rw [f _ _ (by go_simp)]; go_simp
  have hrowH := Lib.hid hrow1
  have hb0H := Lib.hid hb0
  clear hrow hrow1 hb0 hb1
  have l1 : w.heap.size + 1 < w1.heap.size := by omega
  have l2 : w.heap.size + 1 + 1 < w1.heap.size := by omega
  go_wp2
  go_loopg [12] n (fun r x wr => ∃ (k : Nat) (ys : List Pl), k + r = n ∧ x = .int .i64 (k : Int) ∧ Hid (ys.length = n ∧ (∀ j e, j < k → xs[j]? = some e → ys[j]? = some (mvP dx dy e)) ∧ (∀ j, k ≤ j → ys[j]? = xs[j]?)) ∧ Hid (wr.ownsRow (w.heap.size + 3) 112 3 (.slice B n c') n (plCells ys)) ∧ Hid (∀ g : Nat, (Value.slice B n c').ownBlock = some g → g < w1.heap.size) ∧ Hid (Below w.heap.size w wr) ∧ w1.heap.size < wr.heap.size ∧ wr.cell? ⟨w1.heap.size, 0, none⟩ = some (.slice B n c') ∧ wr.cell? ⟨w.heap.size + 1, 0, none⟩ = some (.int .i64 dx) ∧ wr.cell? ⟨w.heap.size + 1, 1, none⟩ = some (.int .i64 dy) ∧ wr.cell? ⟨w.heap.size + 1 + 1, 0, none⟩ = some (.slice none 0 0) ∧ wr.frozen? ⟨w.heap.size + 1 + 1, 0, none⟩ = false)
  case atStart => exact ⟨0, xs, by omega, rfl, Lib.hid ⟨hl, fun j e hj => by omega, fun j _ => rfl⟩, Lib.hid (hrowH.out.alloc _), Lib.hid (fun g hg => (hrowH.out.lt g hg).2), Lib.hid (hb0H.out.alloc (by omega) _), by simp, by go_simp, by go_simp, by go_simp, by go_simp, by go_simp⟩
  case round =>
    obtain ⟨k, ys, hk, rfl, hys, hrw, hgb, hbw, hsz, z0, z1, z2, z3, zk⟩ := hrel
    clear y1 y2 y3 k3
    by_cases hkn : k < n
    · obtain ⟨g, cap, hv, hg1, hg2⟩ : ∃ g cap, Value.slice B n c' = .slice (some ⟨g, 0, none⟩) n cap ∧ w.heap.size + 3 ≤ g ∧ g < wr.heap.size := by
        rcases hrw.out.2 with ⟨_, h0⟩ | ⟨g, cap, cur, hv, hb, hg, _⟩
        · omega
        · exact ⟨g, cap, hv, hb, (Array.getElem?_eq_some_iff.1 hg).1⟩
      injection hv with hv1 hv2 hv3
      subst hv1 hv3
      obtain ⟨e, he⟩ : ∃ e, xs[k]? = some e := ⟨_, List.getElem?_eq_getElem (by omega)⟩
      obtain ⟨ex, ey⟩ := hxyH.out k e he
      have hye := hys.out.2.2 k (Nat.le_refl _)
      rw [he] at hye
      obtain ⟨p0, p1, p2⟩ := plCells_get ys k e hye
      have c0 := (hrw.out.cellAt (k * 3) (by omega)).trans p0
      have c1 := (hrw.out.cellAt (k * 3 + 1) (by omega)).trans p1
      have f0 := hrw.out.frozenAt (k * 3)
      have f1 := hrw.out.frozenAt (k * 3 + 1)
      have hgw := hgb.out g rfl
      have heH := Lib.hid he
      have hyeH := Lib.hid hye
      clear he hye p0 p1 p2
      have n1 : ¬ g = w1.heap.size := by omega
      have n2 : ¬ g = w.heap.size + 1 := by omega
      have n3 : ¬ g = w.heap.size + 1 + 1 := by omega
      have m1 : w.heap.size + 1 < wr.heap.size := by omega
      have m2 : w.heap.size + 1 + 1 < wr.heap.size := by omega
      go_wp2
      refine wp_region_ord [(0, .q), (1, .q), (2, .q), (3, .q), (4, .q), (5, .q), (6, .q), (7, .q), (8, .q), (9, .q), (10, .g), (11, .q), (12, .q), (13, .b)] (by kernel_rfl) (by kernel_rfl) ?_
      simp only [pick, List.filterMap_cons, List.filterMap_nil, List.getElem?_toArray, List.getElem?_cons_zero, List.getElem?_cons_succ, Option.map_some]
      repeat (first
        | ((with_reducible refine wpD_p (fun K hK => ?_)); go_simp; refine hK _ ?_; clear hK K)
        | ((with_reducible refine wpD_q (fun K hK => ?_)); go_simp; (first | refine hK _ ?_ | (go_bits; refine hK _ ?_) | (go_bits; go_simp; refine hK _ ?_)); clear hK K)
        | ((with_reducible refine wpD_g (fun K hK => ?_)); go_simp; refine hK _ _ ?_; clear hK K)
        | ((with_reducible refine wpD_g (fun K hK => ?_)); go_simp; refine ⟨Grew.of_alloc _, hK _ _ ?_⟩; clear hK K)
        | ((with_reducible refine wpD_g (fun K hK => ?_)); go_simp; go_at_call 169; refine (plus_any _ _ _ _ _ ⟨by omega, by omega⟩ ⟨by omega, by omega⟩ ⟨by omega, by omega⟩ ⟨by omega, by omega⟩).mono ?_; rintro e w2 ⟨rfl, hb2⟩; refine ⟨_, rfl, hb2, hK _ _ ?_⟩; clear hK K; obtain ⟨chb2, fhb2, shb2, thb2⟩ := bcell hb2))
      have hrw2 := ownsRow_below hrw.out.drew hb2
      have q0 := (hrw2.cellAt (k * 3) (by omega)).trans (plCells_get ys k e hyeH.out).1
      have q1 := (hrw2.cellAt (k * 3 + 1) (by omega)).trans (plCells_get ys k e hyeH.out).2.1
      have f2 := hrw2.frozenAt (k * 3)
      have f3 := hrw2.frozenAt (k * 3 + 1)
      have hrw2H := Lib.hid hrw2
      have hsz2 : w1.heap.size < w2.heap.size := Nat.lt_of_lt_of_le hsz (by have := hb2.size; simpa using this)
      have x0 : w2.cell? ⟨w1.heap.size, 0, none⟩ = some (.slice (some ⟨g, 0, none⟩) n c') := (hb2.cell (p := ⟨w1.heap.size, 0, none⟩) (by simpa using hsz)).trans (by go_simp)
      have x1 : w2.cell? ⟨w.heap.size + 1, 0, none⟩ = some (.int .i64 dx) := (hb2.cell (p := ⟨w.heap.size + 1, 0, none⟩) (by simpa using m1)).trans (by go_simp)
      have x2 : w2.cell? ⟨w.heap.size + 1, 1, none⟩ = some (.int .i64 dy) := (hb2.cell (p := ⟨w.heap.size + 1, 1, none⟩) (by simpa using m1)).trans (by go_simp)
      have x3 : w2.cell? ⟨w.heap.size + 1 + 1, 0, none⟩ = some (.slice none 0 0) := (hb2.cell (p := ⟨w.heap.size + 1 + 1, 0, none⟩) (by simpa using m2)).trans (by go_simp)
      have x4 : w2.frozen? ⟨w.heap.size + 1 + 1, 0, none⟩ = false := (hb2.frozen (p := ⟨w.heap.size + 1 + 1, 0, none⟩) (by simpa using m2)).trans (by go_simp)
      have hbw2 : Below w.heap.size w w2 := hbw.out.trans (Below.mono (show Below wr.heap.size wr w2 by repeat (first | with_reducible exact bl_refl _ | with_reducible assumption | with_reducible refine bl_al ?_ _ | with_reducible refine bl_dr ?_ | with_reducible refine bl_tr ?_ (by assumption) | with_reducible refine bl_set ?_ ?_ _ | with_reducible exact Nat.le_refl _ | omega | (simp only [World.size_alloc, World.size_setCell, World.size_drew] at *; omega) | (dsimp only; omega) | (simp; done) | (simp; omega))) hbw.out.size)
      have hbw2H := Lib.hid hbw2
      clear hrw2 hbw2 hb2 chb2 fhb2 shb2 thb2
      repeat (first | ((with_reducible refine wpD_p (fun K hK => ?_)); go_simp; refine hK _ ?_; clear hK K) | ((with_reducible refine wpD_q (fun K hK => ?_)); go_simp; (first | refine hK _ ?_ | (go_bits; refine hK _ ?_) | (go_bits; go_simp; refine hK _ ?_)); clear hK K))
      with_reducible refine wpD_b (fun K hK => ?_)
      go_simp
      refine hK _ _ ?_
      clear hK K
      with_reducible refine wpD_nil ?_
      go_wp2
      go_roundg (n - (k + 1))
      case measure => omega
      case rel => exact ⟨k + 1, ys.set k ⟨e.x + dx, e.y + dy, e.t⟩, by omega, by go_num, Lib.hid ⟨by rw [List.length_set]; exact hys.out.1, fun j d hj hd => by
          rcases Nat.lt_succ_iff_lt_or_eq.1 hj with hj | rfl
          · rw [List.getElem?_set_ne (by omega)]; exact hys.out.2.1 j d hj hd
          · rw [heH.out] at hd
            obtain rfl := Option.some.inj hd
            rw [List.getElem?_set_self (by rw [hys.out.1]; exact hkn)]; rfl, fun j hj => by
          rw [List.getElem?_set_ne (by omega)]; exact hys.out.2.2 j (by omega)⟩, Lib.hid (by
          rw [← plCells_set ys k e _ _ hyeH.out]
          exact ((hrw2H.out.stored (k * 3) _).1.stored (k * 3 + 1) _).1), hgb, Lib.hid ((hbw2H.out.setCell (p := ⟨g, k * 3, none⟩) (by simp; omega) _).setCell (p := ⟨g, k * 3 + 1, none⟩) (by simp; omega) _), by simp; omega, by go_simp, by go_simp, by go_simp, by go_simp, by go_simp⟩
    · obtain rfl : k = n := by omega
      have hyl : ys = mvL dx dy xs := by
        apply List.ext_getElem?
        intro j
        rcases Nat.lt_or_ge j k with hj | hj
        · obtain ⟨e, he⟩ : ∃ e, xs[j]? = some e := ⟨_, List.getElem?_eq_getElem (by omega)⟩
          rw [hys.out.2.1 j e hj he, mvL_get he]
        · rw [List.getElem?_eq_none (by rw [hys.out.1]; exact hj), List.getElem?_eq_none (by rw [mvL_len]; omega)]
      have hylH := Lib.hid hyl
      clear hyl
      go_wp2
      refine bodyPost_ret (v := .agg #[.slice B k c']) (by simp only [results, Try.results123]; go_simp) rfl ?_
      refine ⟨B, c', rfl, ?_, hbw.out.setCell (p := ⟨w.heap.size + 1 + 1, 0, none⟩) (by simp; omega) _⟩
      have hrw2 := ownsRow_setCell_below hrw.out (a := ⟨w.heap.size + 1 + 1, 0, none⟩) (by simp) (.slice B k c')
      rw [hylH.out] at hrw2
      have hml : (mvL dx dy xs).length = k := by rw [mvL_len, hl]
      rw [← hml] at hrw2
      obtain ⟨A2, c2, hv, hrd⟩ := rdP_of_row hrw2
      injection hv with h1 h2 h3
      subst h1
      rw [hml] at hrd
      simpa [hml] using hrd
end Go.Proofs.Ytfabgnnpgepcoaa
