/- Walks: BindingsOf, the program's and the reference's. -/
import Derived.Test.YtbipnnjkddffbaaW24
import Derived.Test.YtbipnnjkddffbaaOrdApp
import Derived.Test.YtbipnnjkddffbaaIRes
import Derived.Test.YtbipnnjkddffbaaHTo
namespace Go.Proofs.Ytbipnnjkddffbaa
open Go.RowKit Go.Shelf
set_option linter.unusedSimpArgs false
set_option linter.unusedVariables false
attribute [local go_sem] BelowBy.cell BelowBy.cell_drew stillUpon givesUpon BelowBy.cell_drew2 BelowBy.cell_drew3

theorem cell_one_new (w : World) (a : Value) (t : TypeId) : ∀ j u, [a][j]? = some u → (w.alloc (.cells #[a] t)).cell? ((⟨w.heap.size, 0, none⟩ : Addr).add j) = some u := by
  intro j u hj
  match j, hj with
  | 0, hj => simp at hj; subst hj; simp [Addr.add]
  | j + 1, hj => simp at hj
noncomputable def bindOf (gs : List Gl) (ts : List Ti) (xs : List Pl) (e : Pl) : Int := bindN gs ts xs e.x e.y e.t.toNat 4
noncomputable def bindsL (gs : List Gl) (ts : List Ti) (xs : List Pl) (k : Nat) : List Int := (xs.take k).map (bindOf gs ts xs)
theorem bindsL_succ {gs : List Gl} {ts : List Ti} {xs : List Pl} {k : Nat} {e : Pl} (he : xs[k]? = some e) : bindsL gs ts xs (k + 1) = bindsL gs ts xs k ++ [bindOf gs ts xs e] := by
  have hk := lt_of_get he
  have h2 : xs[k] = e := (List.getElem?_eq_some_iff.1 he).2
  unfold bindsL
  rw [List.take_succ_eq_append_getElem hk, List.map_append, h2]; rfl
theorem bindsL_len {gs : List Gl} {ts : List Ti} {xs : List Pl} {k : Nat} (hk : k ≤ xs.length) : (bindsL gs ts xs k).length = k := by
  unfold bindsL; simp; omega
noncomputable def bindsR (gs : List Gl) (ts : List Ti) (xs : List Pl) : List Int × Int := if validAsmB gs ts xs = true then (bindsL gs ts xs xs.length, 0) else ([], 1)
theorem bindsR_no {gs : List Gl} {ts : List Ti} {xs : List Pl} (h : validAsmB gs ts xs = false) : (([], 1) : List Int × Int) = bindsR gs ts xs := by unfold bindsR; rw [h, if_neg (by decide)]
theorem bindsR_yes {gs : List Gl} {ts : List Ti} {xs : List Pl} (h : validAsmB gs ts xs = true) : ((bindsL gs ts xs xs.length, 0) : List Int × Int) = bindsR gs ts xs := by unfold bindsR; rw [h, if_pos rfl]
theorem bindsR_len (gs : List Gl) (ts : List Ti) (xs : List Pl) : (bindsR gs ts xs).1.length ≤ 1073741824 := by
  unfold bindsR
  split
  · rename_i h
    have h3 := (valid_of h).len
    show (bindsL gs ts xs xs.length).length ≤ _
    rw [bindsL_len (Nat.le_refl _)]
    omega
  · simp
/-- the row of the first k -/
theorem row_snoc {w' : World} {B : Nat} {v' : Value} {k : Nat} {gs : List Gl} {ts : List Ti} {xs : List Pl} {e : Pl} {r : Int} (he : xs[k]? = some e) (hr : bindOf gs ts xs e = r) (h : w'.ownsRow B 2 1 v' (k + 1) ((bindsL gs ts xs k).map (Value.int .i64) ++ [.int .i64 r])) : w'.ownsRow B 2 1 v' (k + 1) ((bindsL gs ts xs (k + 1)).map (Value.int .i64)) := by
  rw [bindsL_succ he, List.map_append, hr]; exact h
set_option maxRecDepth 100000 in
set_option maxHeartbeats 2000000 in
theorem BindingsOf_any (G T A : Option Addr) (n cg m ct q ca : Nat) (gs : List Gl) (ts : List Ti) (xs : List Pl) (w : World) (h : SA w G n T m A q gs ts xs) :
    Calls Try.prog 17 #[.agg #[.slice G n cg, .slice T m ct], .agg #[.slice A q ca]] w (IntsRes w (bindsR gs ts xs)) := by
  obtain ⟨i0, hi, hz0, hz1, hz2⟩ := info_parts infoI
  have hH := Lib.hid h
  have hql := h.A.len
  clear h
  cases hv : validAsmB gs ts xs
  · have hvH := Lib.hid hv
    clear hv
    go_enter Try.func17, Try.ntmps17
    go_wp2_with fail
    refine ((hH.out.below (by exact bel_)).valid hvH.out).mono ?_
    rintro e w1 ⟨rfl, hb1⟩
    go_wp2
    go_ret2
    exact IntsRes.of (bindsR_no hvH.out) (World.ownsRow_nil _ _ _ _) (by exact bel_)
  · have hvH := Lib.hid hv
    have hV := valid_of hv
    clear hv
    have hq5 := hV.len
    go_enter Try.func17, Try.ntmps17
    go_wp2_with fail
    refine ((hH.out.below (by exact bel_)).valid hvH.out).mono ?_
    rintro e w1 ⟨rfl, hb1⟩
    have hB1 : Below w.heap.size w w1 := by exact bel_
    have s1 : w.heap.size + 2 ≤ w1.heap.size := by have := hb1.size; simp at this; omega
    have y0 : w1.cell? ⟨w.heap.size, 0, none⟩ = some (.slice G n cg) := (hb1.cell (p := ⟨w.heap.size, 0, none⟩) (by go_simp)).trans (by go_simp)
    have y1 : w1.cell? ⟨w.heap.size, 1, none⟩ = some (.slice T m ct) := (hb1.cell (p := ⟨w.heap.size, 1, none⟩) (by go_simp)).trans (by go_simp)
    have y2 : w1.cell? ⟨w.heap.size + 1, 0, none⟩ = some (.slice A q ca) := (hb1.cell (p := ⟨w.heap.size + 1, 0, none⟩) (by go_simp)).trans (by go_simp)
    clear hb1
    go_wp2
    go_loopg [16, 6] q (fun r i out wr => ∃ k : Nat, k + r = q ∧ i = .int .i64 (k : Int) ∧ wr.ownsRow (w.heap.size + 2) 2 1 out k ((bindsL gs ts xs k).map (Value.int .i64)) ∧ Below w.heap.size w wr ∧ wr.cell? ⟨w.heap.size, 0, none⟩ = some (.slice G n cg) ∧ wr.cell? ⟨w.heap.size, 1, none⟩ = some (.slice T m ct) ∧ wr.cell? ⟨w.heap.size + 1, 0, none⟩ = some (.slice A q ca) ∧ w.heap.size + 2 ≤ wr.heap.size)
    case atStart => exact ⟨0, by omega, rfl, World.ownsRow_nil _ _ _ _, hB1, y0, y1, y2, s1⟩
    case round =>
      obtain ⟨k, hk, rfl, hrow, hbw, x0, x1, x2, hsz⟩ := hrel
      clear y0 y1 y2 hB1 s1
      have l0 : w.heap.size < wr.heap.size := by omega
      have l1 : w.heap.size + 1 < wr.heap.size := by omega
      have hS := hH.out.below hbw
      by_cases hlt : k < q
      · obtain ⟨e, he⟩ := hS.A.get hlt
        obtain ⟨t, ht, htl⟩ := hV.ti k e he
        have hpt := hV.pt k e he
        obtain ⟨r, hr⟩ : ∃ r, bindOf gs ts xs e = r := ⟨_, rfl⟩
        have hrt : bindN gs ts xs e.x e.y t 4 = r := by rw [← hr]; unfold bindOf; rw [ht]; rfl
        have hrH := Lib.hid hr
        have hrtH := Lib.hid hrt
        have heH := Lib.hid he
        obtain ⟨b, o, hAe, hb, hc⟩ := hS.A.ptr (by omega)
        obtain ⟨c0, c1, c2⟩ := hc k e he
        rw [ht] at c2
        subst hAe
        have hSH := Lib.hid hS
        clear hr hrt he ht hc hS
        go_wp2_with fail
        refine (binding_at t rfl (hSH.out.G.below RGl.stable (by exact bel_)) (hSH.out.T.below RTi.stable (by exact bel_)) (hSH.out.A.below RPl.stable (by exact bel_)) hV htl ⟨by omega, by omega⟩ ⟨by omega, by omega⟩ hrtH.out).mono ?_
        rintro _ w2 ⟨rfl, hb2⟩
        have hb2' : Below wr.heap.size wr w2 := by exact bel_
        have hB2 : Below w.heap.size w w2 := hbw.trans (hb2'.mono hbw.size)
        have hrow' := ownsRow_below hrow hb2'
        have z0 := (hb2'.cell (p := ⟨w.heap.size, 0, none⟩) l0).trans x0
        have z1 := (hb2'.cell (p := ⟨w.heap.size, 1, none⟩) l0).trans x1
        have z2 := (hb2'.cell (p := ⟨w.heap.size + 1, 0, none⟩) l1).trans x2
        have s2 := hb2'.size
        clear hb2 hb2' x0 x1 x2 c0 c1 c2
        go_wp2_with (at_builtin; refine wpList_append_own _ rfl _ _ 52 rfl (w.heap.size + 2) 2 i0 (.int .i64 0) 1 8 Try.underlying52 hi hz0 hz1 hz2 rfl (by decide) _ _ _ rfl (hrow'.alloc _) ⟨w2.heap.size, 0, none⟩ 1 1 [.int .i64 r] rfl rfl (cell_one_new _ _ _) (fun x hx => by simp at hx; rcases hx with rfl; rfl) (by unfold maxLen; omega) (by omega) (by simp; omega) ?_; intro v' w3 hown' hgrow _)
        have hfar : Below (w.heap.size + 2) w2 w3 := ((Below.refl (w.heap.size + 2) w2).alloc (by omega) _).grown hgrow (by simp; omega) (fun b' hb' => (hrow'.lt b' hb').1)
        have hB3 : Below w.heap.size w w3 := hB2.trans (hfar.mono (by omega))
        have u0 := (hfar.cell (p := ⟨w.heap.size, 0, none⟩) (by simp)).trans z0
        have u1 := (hfar.cell (p := ⟨w.heap.size, 1, none⟩) (by simp)).trans z1
        have u2 := (hfar.cell (p := ⟨w.heap.size + 1, 0, none⟩) (by simp)).trans z2
        have s3 := hfar.size
        have hownH := Lib.hid (row_snoc heH.out hrH.out hown')
        clear hfar z0 z1 z2 hown' hgrow hrow' hrow
        go_wp2
        go_roundg (q - (k + 1))
        case measure => omega
        case rel => exact ⟨k + 1, by omega, by go_num, hownH.out, hB3, u0, u1, u2, by omega⟩
      · obtain rfl : k = q := by omega
        go_wp2
        go_ret2
        exact IntsRes.of (bindsR_yes hvH.out) (by rw [bindsL_len (by omega), hql]; exact ownsRow_base hrow (by omega)) hbw
set_option maxRecDepth 100000 in
set_option maxHeartbeats 2000000 in
theorem sBindingsOf_any (G T A : Option Addr) (n cg m ct q ca : Nat) (gs : List Gl) (ts : List Ti) (xs : List Pl) (w : World) (h : SA w G n T m A q gs ts xs) :
    Calls Try.prog 18 #[.agg #[.slice G n cg, .slice T m ct], .agg #[.slice A q ca]] w (IntsRes w (bindsR gs ts xs)) := by
  obtain ⟨i0, hi, hz0, hz1, hz2⟩ := info_parts infoI
  have h0 := Lib.hid (h.box cg ct ca)
  have hql := h.A.len
  clear h
  have hc1 := codeB_true
  have hc2 := codeB_false
  cases hv : validAsmB gs ts xs
  · have hvH := Lib.hid hv
    clear hv
    go_enter Try.func18, Try.ntmps18
    go_wp2_with fail
    refine (h0.out.asked hvH.out).mono ?_
    rintro e w1 ⟨rfl, hb1⟩
    go_wp2
    go_ret2
    exact IntsRes.of (bindsR_no hvH.out) (World.ownsRow_nil _ _ _ _) (by exact bel_)
  · have hvH := Lib.hid hv
    have hV := valid_of hv
    have hq5 := hV.len
    clear hv
    go_enter Try.func18, Try.ntmps18
    go_wp2_with fail
    refine (h0.out.asked hvH.out).mono ?_
    rintro e w1 ⟨rfl, hb1⟩
    have hB1 : Below w.heap.size w w1 := by exact bel_
    have s1 : w.heap.size + 2 ≤ w1.heap.size := by have := hb1.size; simp at this; omega
    have h1H := Lib.hid (h0.out.below hb1)
    clear hb1
    go_wp2
    go_loopg [8, 7] q (fun r i out wr => ∃ k : Nat, k + r = q ∧ i = .int .i64 (k : Int) ∧ wr.ownsRow w1.heap.size 2 1 out k ((bindsL gs ts xs k).map (Value.int .i64)) ∧ Below w1.heap.size w1 wr)
    case atStart => exact ⟨0, by omega, rfl, World.ownsRow_made _ _ _ (Nat.le_refl _) (by decide) rfl, by exact bel_⟩
    case round =>
      obtain ⟨k, hk, rfl, hrow, hbw⟩ := hrel
      have hSt := h1H.out.below hbw
      obtain ⟨plt, A', n', c', g1, g2⟩ := hSt.a
      obtain rfl : n' = q := by rw [← g2.len]; exact hql
      by_cases hlt : k < n'
      · obtain ⟨e, he⟩ := g2.get hlt
        obtain ⟨t, ht, htl⟩ := hV.ti k e he
        have hpt := hV.pt k e he
        obtain ⟨r, hr⟩ : ∃ r, bindOf gs ts xs e = r := ⟨_, rfl⟩
        have hrt : bindN gs ts xs e.x e.y t 4 = r := by rw [← hr]; unfold bindOf; rw [ht]; rfl
        have hrH := Lib.hid hr
        have hrtH := Lib.hid hrt
        have heH := Lib.hid he
        obtain ⟨b, o, rfl, hb, hc⟩ := g2.ptr (by omega)
        obtain ⟨c0, c1, c2⟩ := hc k e he
        rw [ht] at c2
        have hStH := Lib.hid hSt
        have hz1' := hbw.size
        clear hr hrt he ht hc g2 hSt
        go_wp2
        refine wp_region_ord [(0, .q), (1, .q), (2, .q), (3, .q), (4, .q), (5, .q), (6, .q), (7, .q), (8, .q), (9, .q), (10, .q), (11, .q), (12, .q), (13, .g), (14, .g), (15, .b), (16, .q)] (by kernel_rfl) (by kernel_rfl) ?_
        simp only [pick, List.filterMap_cons, List.filterMap_nil, List.getElem?_toArray, List.getElem?_cons_zero, List.getElem?_cons_succ, Option.map_some]
        repeat (first
          | ((with_reducible refine wpD_p (fun K hK => ?_)); go_simp; refine hK _ ?_; clear hK K)
          | ((with_reducible refine wpD_q (fun K hK => ?_)); go_simp; (first | refine hK _ ?_ | (go_bits; refine hK _ ?_) | (go_bits; go_simp; refine hK _ ?_)); clear hK K)
          | ((with_reducible refine wpD_g (fun K hK => ?_)); go_simp; refine hK _ _ ?_; clear hK K)
          | ((with_reducible refine wpD_g (fun K hK => ?_)); go_simp; refine ⟨Grew.of_alloc _, hK _ _ ?_⟩; clear hK K)
          | ((with_reducible refine wpD_g (fun K hK => ?_)); go_simp; go_at_call 51; refine (l06Binding_at t rfl (hStH.out.below (by exact bel_)).s (hStH.out.below (by exact bel_)).a hV htl ⟨by omega, by omega⟩ ⟨by omega, by omega⟩ hrtH.out).mono ?_; rintro e w2 ⟨rfl, hb2⟩; refine ⟨_, rfl, hb2, hK _ _ ?_⟩; clear hK K; obtain ⟨chb2, fhb2, shb2, thb2⟩ := bcell hb2))
        have hb2' : Below wr.heap.size wr w2 := by exact bel_
        have hB2 : Below w1.heap.size w1 w2 := hbw.trans (hb2'.mono hbw.size)
        have hrow' := ownsRow_below hrow hb2'
        have s2 := hb2'.size
        refine wpD_append rfl _ _ 52 rfl w1.heap.size 2 i0 (.int .i64 0) 1 8 Try.underlying52 hi hz0 hz1 hz2 rfl (by decide) _ _ _ rfl (hrow'.alloc _) ⟨w2.heap.size, 0, none⟩ 1 1 [.int .i64 r] rfl rfl (cell_one_new _ _ _) (fun x hx => by simp at hx; rcases hx with rfl; rfl) (by unfold maxLen; omega) (by omega) (by simp; omega) ?_
        intro v' w3 hown' hgrow
        have hB3 : Below w1.heap.size w1 w3 := (hB2.alloc (by omega) _).grown hgrow (by simp; omega) (fun b' hb' => (hrow'.lt b' hb').1)
        have hownH := Lib.hid (row_snoc heH.out hrH.out hown')
        clear hown' hgrow hrow' hrow hB2 hb2' c0 c1 c2 chb2 fhb2 shb2 thb2 hb2
        repeat (first | ((with_reducible refine wpD_p (fun K hK => ?_)); go_simp; refine hK _ ?_; clear hK K) | ((with_reducible refine wpD_q (fun K hK => ?_)); go_simp; (first | refine hK _ ?_ | (go_bits; refine hK _ ?_) | (go_bits; go_simp; refine hK _ ?_)); clear hK K))
        with_reducible refine wpD_nil ?_
        go_wp2
        go_roundg (n' - (k + 1))
        case measure => omega
        case rel => exact ⟨k + 1, by omega, by go_num, hownH.out, hB3⟩
      · obtain rfl : k = n' := by omega
        clear g2
        go_wp2
        go_ret2
        exact IntsRes.of (bindsR_yes hvH.out) (by rw [hql, bindsL_len (by omega)]; exact ownsRow_base hrow (by omega)) (hB1.trans (hbw.mono (by omega)))
end Go.Proofs.Ytbipnnjkddffbaa
