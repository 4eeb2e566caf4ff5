import Derived.Test.YtkppijcjmhkkkaaGBI
import Derived.Test.YtkppijcjmhkkkaaGAY
import Derived.Test.YtkppijcjmhkkkaaGBF
set_option linter.unusedSimpArgs false
set_option linter.unusedVariables false
/- Walk: a scaled shape scaled back. -/

namespace Go.Proofs.Ytkppijcjmhkkkaa
open Go.RowKit
attribute [local go_sem] BelowBy.cell BelowBy.cell_drew stillUpon givesUpon

set_option maxRecDepth 100000 in
set_option maxHeartbeats 4000000 in
theorem UnscaleShape_any {A : Option Addr} {N c k n : Nat} {ps L : List Pt} {w : World} (h : RdSl 2 RPt w A N L) (h3 : S4 ps k) (h1 : 1 ≤ n) (hn : ps.length = n) (hL : scS k ps = L) :
    Calls Try.prog 11 #[.slice A N c, .int .i64 (k : Int)] w fun e w' => ∃ B c', e = .returned (.tuple #[.slice B n c', .int .i64 0]) ∧ RdSl 2 RPt w' B n ps ∧ Below w.heap.size w w' := by
  obtain ⟨i0, hi, hz0, hz1, hz2⟩ := info_parts infoPtQ
  have hlN := h.len
  have hn10 : n ≤ 25 := by have := h3.n; omega
  have hk := h3.k
  have hNn : N = n * (k * k) := by rw [← hlN, ← hL, h3.len, hn]
  have hN9 : N ≤ 225 := by
    have h9 := h3.kk
    have : n * (k * k) ≤ 25 * 9 := Nat.mul_le_mul (by omega) h9
    omega
  have hN1 : 1 ≤ N := by rw [hNn]; exact Nat.mul_pos (by omega) (Nat.mul_pos (by omega) (by omega))
  have hsL := Lib.hid (show shapeB L = true by rw [← hL]; exact h3.shape (by omega))
  have hrL := Lib.hid (show ∀ q ∈ L, (-47 ≤ q.x ∧ q.x ≤ 47) ∧ (-47 ≤ q.y ∧ q.y ≤ 47) by rw [← hL]; exact h3.rng)
  have hun := Lib.hid (show putAll [] (L.map fun q => (⟨q.x / (k : Int), q.y / (k : Int)⟩ : Pt)) = ps by rw [← hL]; exact unscale h3.k h3.s)
  have hnk : n * k ≤ 100 := Nat.le_trans (Nat.mul_le_mul hn10 (show k ≤ 3 by omega)) (by decide)
  obtain ⟨m, hm⟩ : ∃ m, n * k = m := ⟨_, rfl⟩
  have hmk : m * k = N := by rw [← hm, hNn, Nat.mul_assoc]
  have e1 : (n : Int) * (k : Int) = (m : Int) := by rw [← hm, Int.natCast_mul]
  have e2 : (m : Int) * (k : Int) = (N : Int) := by rw [← hmk, Int.natCast_mul]
  have w1 : IntKind.i64.wrap ((n : Int) * (k : Int)) = (m : Int) := by rw [e1]; exact wrapFs (by omega) (by omega)
  have w2 : IntKind.i64.wrap ((m : Int) * (k : Int)) = (N : Int) := by rw [e2]; exact wrapFs (by omega) (by omega)
  have hB : Hid (inB (k : Int) 1 60 = true) := Lib.hid (inB_true.2 (by omega))
  have hH := Lib.hid h
  have h3H := Lib.hid h3
  have hLH := Lib.hid hL
  have hnH := Lib.hid hn
  have hlH := Lib.hid hlN
  obtain ⟨F, hF⟩ : ∃ F, L.map (fun q => (⟨q.x / (k : Int), q.y / (k : Int)⟩ : Pt)) = F := ⟨_, rfl⟩
  have hFl := Lib.hid (show F.length = N by rw [← hF, List.length_map, hlN])
  have hFs := Lib.hid (fun (j : Nat) (e : Pt) (he : L[j]? = some e) => (show F.take (j + 1) = F.take j ++ [⟨e.x / (k : Int), e.y / (k : Int)⟩] by rw [← hF, List.take_add_one, List.getElem?_map, he]; rfl))
  rw [hF] at hun
  clear h hlN hL hn hNn hm hmk e1 e2 h3 hF
  go_enter Try.func11, Try.ntmps11
  go_wp2_with (go_at_call 23; refine (within_at hB.out).mono ?_; rintro e _ ⟨rfl, rfl⟩)
  refine (shapeCodeB_at hH.out (by omega) hsL.out).mono ?_
  rintro e w1' ⟨rfl, hb1⟩
  have hb1H := Lib.hid hb1
  clear hb1
  go_wp2_with fail
  go_loopg [19, 7] N (fun g i v wr => ∃ (j : Nat), j + g = N ∧ i = .int .i64 (j : Int) ∧ Hid (wr.ownsRow w.heap.size 49 2 v j (ptCells (F.take j))) ∧ Hid (Below w.heap.size w wr))
  case atStart => exact ⟨0, by omega, rfl, Lib.hid (World.ownsRow_nil _ _ _ _), hb1H⟩
  case round =>
    clear hb1H
    obtain ⟨j, hj, rfl, hO, hbw⟩ := hrel
    have hszl := hbw.out.size
    obtain ⟨A1, c1, rfl⟩ := ownsRow_form hO.out
    by_cases hjN : j < N
    · have hjI : (j : Int) < (N : Int) := by omega
      have hAw := hH.out.below RPt.stable hbw.out
      obtain ⟨bb, ob, rfl, hbb, hbc⟩ := hAw.ptr (by omega)
      obtain ⟨e, he⟩ := hAw.get hjN
      obtain ⟨e0, e1⟩ := hbc j e he
      have her := hrL.out e (List.mem_of_getElem? he)
      have htk := Lib.hid (hFs.out j e he)
      clear hbc he hAw
      obtain ⟨X, hX⟩ : ∃ X : Int, e.x / (k : Int) = X := ⟨_, rfl⟩
      obtain ⟨Y, hY⟩ : ∃ Y : Int, e.y / (k : Int) = Y := ⟨_, rfl⟩
      have fX := Lib.hid (FlOf.mk (a := e.x) (k := (k : Int)) (by omega) (by omega) hX)
      have fY := Lib.hid (FlOf.mk (a := e.y) (k := (k : Int)) (by omega) (by omega) hY)
      have hXH := Lib.hid hX
      have hYH := Lib.hid hY
      have hal : Below wr.heap.size wr (wr.alloc (Obj.cells #[.int .i64 e.x, .int .i64 e.y] 49)) := bl_al (bl_refl _) _
      obtain ⟨b9, hb9⟩ : ∃ b, wr.heap.size = b := ⟨_, rfl⟩
      obtain ⟨wa, hwa⟩ : ∃ z, z = wr.alloc (Obj.cells #[.int .i64 e.x, .int .i64 e.y] 49) := ⟨_, rfl⟩
      have bP0 : Bx wa wr.heap.size [.int .i64 e.x, .int .i64 e.y] := by rw [hwa]; exact Bx.made wr [.int .i64 e.x, .int .i64 e.y] _
      rw [← hwa] at hal
      have hO1 := Lib.hid (ownsRow_below hO.out hal)
      have hbw1 := Lib.hid (hbw.out.trans (hal.mono hszl))
      rw [hb9] at bP0
      have bP := Lib.hid bP0
      clear hal bP0 hX hY hO hbw hszl
      go_wp2_with fail
      rw [← hwa]
      try simp only [hb9]
      clear hwa hb9
      have x0 := bP.out.cell 0 _ rfl
      have x1 := bP.out.cell 1 _ rfl
      have lx := bP.out.lt
      refine wp_region_ord [(0, .q), (1, .q), (2, .q), (3, .q), (5, .q), (6, .q), (7, .q), (4, .g), (8, .g), (9, .q), (10, .g), (11, .b), (12, .q)] (by kernel_rfl) (by kernel_rfl) ?_
      simp only [pick, List.filterMap_cons, List.filterMap_nil, List.getElem?_toArray, List.getElem?_cons_zero, List.getElem?_cons_succ, Option.map_some]
      have jb : Below wa.heap.size wa wa.drew := bl_dr (bl_refl _)
      repeat (first | ((with_reducible refine wpD_p (fun K hK => ?_)); go_simp; refine hK _ ?_; clear hK K) | ((with_reducible refine wpD_q (fun K hK => ?_)); go_simp; (first | refine hK _ ?_ | (go_bits; refine hK _ ?_) | (go_bits; go_simp; refine hK _ ?_)); clear hK K))
      with_reducible refine wpD_g (fun KK hKK => ?_)
      go_simp
      refine (floorDiv_f fX.out).mono ?_
      rintro _ w3 ⟨rfl, hb⟩
      refine ⟨_, rfl, hb, hKK _ _ ?_⟩
      clear hKK KK x0 x1 lx
      replace jb := jb.trans (hb.mono jb.size)
      clear hb
      have x0 := (bP.out.below jb).cell 0 _ rfl
      have x1 := (bP.out.below jb).cell 1 _ rfl
      have lx := (bP.out.below jb).lt
      repeat (first | ((with_reducible refine wpD_p (fun K hK => ?_)); go_simp; refine hK _ ?_; clear hK K) | ((with_reducible refine wpD_q (fun K hK => ?_)); go_simp; (first | refine hK _ ?_ | (go_bits; refine hK _ ?_) | (go_bits; go_simp; refine hK _ ?_)); clear hK K))
      with_reducible refine wpD_g (fun KK hKK => ?_)
      go_simp
      refine (floorDiv_f fY.out).mono ?_
      rintro _ w4 ⟨rfl, hb⟩
      refine ⟨_, rfl, hb, hKK _ _ ?_⟩
      clear hKK KK x0 x1 lx
      replace jb := jb.trans (hb.mono jb.size)
      clear hb
      repeat (first | ((with_reducible refine wpD_p (fun K hK => ?_)); go_simp; refine hK _ ?_; clear hK K) | ((with_reducible refine wpD_q (fun K hK => ?_)); go_simp; (first | refine hK _ ?_ | (go_bits; refine hK _ ?_) | (go_bits; go_simp; refine hK _ ?_)); clear hK K))
      with_reducible refine wpD_g (fun K hK => ?_)
      go_simp
      refine ⟨Grew.of_alloc _, hK _ _ ?_⟩
      clear hK K
      have hal : Below w4.heap.size w4 (w4.alloc (Obj.cells #[.int .i64 X, .int .i64 Y] 49)) := bl_al (bl_refl _) _
      have hs4 := hbw1.out.size
      have hs5 := jb.size
      have hO4 := ownsRow_below (ownsRow_below hO1.out jb) hal
      refine wpD_append_atN rfl _ _ 24 rfl w.heap.size 49 i0 (.agg #[.int .i64 0, .int .i64 0]) 2 16 Try.underlying24 hi hz0 hz1 hz2 rfl (by decide) (.slice A1 j c1) j (ptCells (F.take j)) (by go_simp) hO4 ⟨w4.heap.size, 0, none⟩ 1 1 [.int .i64 X, .int .i64 Y] (by go_simp) rfl (cell_pt2 _ _ _ _) (fun x hx => by simp at hx; rcases hx with rfl | rfl <;> rfl) (by unfold maxLen; omega) (by omega) (by simp; omega) ?_
      intro v9 w9 hown9 hgrow9 hat9
      have hs9 := hal.size
      have bw9 := Lib.hid (((hbw1.out.trans (jb.mono hs4)).trans (hal.mono (show w.heap.size ≤ w4.heap.size by omega))).grown hgrow9 (by omega) (fun g e => (hO4.lt g e).1))
      have hown9H := Lib.hid hown9
      clear hown9 hgrow9 hat9 hs9 hs4 hs5 hal hO4 jb hO1 hbw1 bP
      repeat (first | ((with_reducible refine wpD_p (fun K hK => ?_)); go_simp; refine hK _ ?_; clear hK K) | ((with_reducible refine wpD_q (fun K hK => ?_)); go_simp; (first | refine hK _ ?_ | (go_bits; refine hK _ ?_) | (go_bits; go_simp; refine hK _ ?_)); clear hK K))
      with_reducible refine wpD_nil ?_
      go_wp2
      go_roundg (N - (j + 1))
      case measure => omega
      case rel => exact ⟨j + 1, by omega, by go_num, Lib.hid (by rw [htk.out, ptCells_snoc, hXH.out, hYH.out]; exact hown9H.out), bw9⟩
    · obtain rfl : j = N := by omega
      have hjI : ¬ (j : Int) < (j : Int) := by omega
      have htake := Lib.hid (show F.take j = F from List.take_of_length_le (by rw [hFl.out]; exact Nat.le_refl _))
      have hOw := hO.out
      rw [htake.out] at hOw
      have hOwH := Lib.hid hOw
      clear hOw hO
      go_wp2_with fail
      refine (sortedShape_any w.heap.size _ F _ (by rw [hFl.out]; exact hOwH.out) (by rw [hFl.out]; omega) (fun h0 => by rw [hFl.out] at h0; omega)).mono ?_
      rintro e w2 ⟨v, rfl, hO2, hb2⟩
      rw [hun.out] at hO2
      obtain ⟨B, cb, rfl, hR⟩ := own_rd hO2 hnH.out
      have hRH := Lib.hid hR
      have hb2H := Lib.hid (hbw.out.trans (hb2.mono hszl))
      clear hO2 hb2 hR
      go_wp2_with fail
      refine (scaled_at hRH.out h3H.out h1 hLH.out hlH.out).mono ?_
      rintro e w3 ⟨D, cd, rfl, hR3, hb3⟩
      have hR3H := Lib.hid hR3
      have hb3H := Lib.hid (hb2H.out.trans (hb3.mono hb2H.out.size))
      have hRH3 := Lib.hid (hRH.out.below RPt.stable hb3)
      clear hb3 hR3
      go_wp2_with fail
      refine (EqualPt_any hR3H.out (hH.out.below RPt.stable hb3H.out) (by omega)).mono ?_
      rintro e w4 ⟨rfl, hb4⟩
      have hb4H := Lib.hid (hb3H.out.trans (hb4.mono hb3H.out.size))
      have hRH4 := Lib.hid (hRH3.out.below RPt.stable hb4)
      clear hb4
      go_wp2
      refine bodyPost_ret (v := .tuple #[.slice B n cb, .int .i64 0]) (by simp only [results, Try.results11]; go_simp) rfl ?_
      exact ⟨B, cb, rfl, hRH4.out, hb4H.out⟩
end Go.Proofs.Ytkppijcjmhkkkaa
/- Plain: the parts of a shape are classes of points that are joined by ways; maps that keep ways keep the number of the parts and of the holes. -/


namespace Go.Proofs.Ytkppijcjmhkkkaa
open Go.RowKit
/-- the neighbor of a point -/
def nbr (p : Pt) (d : Nat) : Pt := ⟨stepX p.x (d : Int), stepY p.y (d : Int)⟩
theorem nbr_back {p : Pt} {d : Nat} (hd : d < 4) : nbr (nbr p d) ((d + 2) % 4) = p := by
  have hb : stepX (stepX p.x d) (((d + 2) % 4 : Nat) : Int) = p.x ∧ stepY (stepY p.y d) (((d + 2) % 4 : Nat) : Int) = p.y := by
    have : d = 0 ∨ d = 1 ∨ d = 2 ∨ d = 3 := by omega
    rcases this with rfl | rfl | rfl | rfl <;> simp [stepX, stepY]
  unfold nbr
  simp only [hb.1, hb.2]
/-- joined by a way within the points -/
inductive Way (S : List Pt) : Pt → Pt → Prop
  | one {p : Pt} : p ∈ S → Way S p p
  | more {p q : Pt} {d : Nat} : Way S p q → d < 4 → nbr q d ∈ S → Way S p (nbr q d)
section
variable {S : List Pt} {p q r : Pt}
theorem Way.left (h : Way S p q) : p ∈ S := by
  induction h with
  | one h => exact h
  | more _ _ _ ih => exact ih
theorem Way.right (h : Way S p q) : q ∈ S := by
  cases h with
  | one h => exact h
  | more _ _ h => exact h
theorem Way.trans (h : Way S p q) (k : Way S q r) : Way S p r := by
  induction k with
  | one _ => exact h
  | more _ hd hn ih => exact .more ih hd hn
theorem Way.near {d : Nat} (hp : p ∈ S) (hd : d < 4) (hn : nbr p d ∈ S) : Way S p (nbr p d) := .more (.one hp) hd hn
theorem Way.symm (h : Way S p q) : Way S q p := by
  induction h with
  | one h => exact .one h
  | @more q d hw hd hn ih =>
    refine Way.trans ?_ ih
    have h1 := Way.near (p := nbr q d) (d := (d + 2) % 4) hn (by omega) (by rw [nbr_back hd]; exact hw.right)
    rw [nbr_back hd] at h1
    exact h1
/-- a map that keeps the steps keeps the ways -/
theorem Way.map {T : List Pt} {f : Pt → Pt} (h1 : ∀ p ∈ S, f p ∈ T) (h2 : ∀ p d, p ∈ S → d < 4 → nbr p d ∈ S → Way T (f p) (f (nbr p d))) (h : Way S p q) : Way T (f p) (f q) := by
  induction h with
  | one h => exact .one (h1 _ h)
  | more hw hd hn ih => exact ih.trans (h2 _ _ hw.right hd hn)
end
section
variable {ps : List Pt}
theorem parts_at {i : Nat} {l : List Pt} (h : (partsP ps)[i]? = some l) (p : Pt) : p ∈ l ↔ ∃ v : Nat, ps[v]? = some p ∧ (allP (nbP ps) ps.length ps.length).1[v]? = some (i + 1) := by
  unfold partsP partsN namesL at h
  rw [List.map_map, List.getElem?_map] at h
  have hil : i < (allP (nbP ps) ps.length ps.length).2.length := by
    apply Classical.byContradiction
    intro hh
    rw [List.getElem?_eq_none (by simpa using hh)] at h
    cases h
  rw [List.getElem?_range hil] at h
  simp only [Option.map_some, Option.some.injEq] at h
  subst h
  show p ∈ ptsAt ps (nameL _ i ps.length) ↔ _
  unfold ptsAt
  rw [List.mem_map]
  constructor
  · rintro ⟨v, hv, rfl⟩
    obtain ⟨h1, h2⟩ := nameL_mem.1 hv
    obtain ⟨e, he⟩ : ∃ e, ps[v]? = some e := ⟨_, List.getElem?_eq_getElem h1⟩
    exact ⟨v, by rw [ptAt_of he]; exact he, h2⟩
  · rintro ⟨v, hv, h2⟩
    exact ⟨v, nameL_mem.2 ⟨(List.getElem?_eq_some_iff.1 hv).1, h2⟩, ptAt_of hv⟩
/-- a part is all that is joined to one of its points -/
theorem part_way (hS : Shp ps) {i : Nat} {l : List Pt} (h : (partsP ps)[i]? = some l) {p q : Pt} (hp : p ∈ l) : q ∈ l ↔ Way ps p q := by
  constructor
  · intro hq
    have hil : i < (allP (nbP ps) ps.length ps.length).2.length := by
      have h1 := (List.getElem?_eq_some_iff.1 h).1
      unfold partsP at h1
      rw [List.length_map, partsN_len] at h1
      exact h1
    obtain ⟨l0, hl0⟩ : ∃ l0, (allP (nbP ps) ps.length ps.length).2[i]? = some l0 := ⟨_, List.getElem?_eq_getElem hil⟩
    obtain ⟨_, hlt, hmem⟩ := allP_mem _ i l0 hl0
    obtain ⟨r, hr, _, hcl⟩ := allP_root _ i l0 hl0
    obtain ⟨e, he⟩ : ∃ e, ps[r]? = some e := ⟨_, List.getElem?_eq_getElem (hlt r hr)⟩
    have hall := hcl (fun v : Nat => ∃ x, ps[v]? = some x ∧ Way ps e x) (fun u d v hu hd hv => by
      obtain ⟨x, hx, hw⟩ := hu
      unfold nbP at hv
      rw [hx] at hv
      simp only at hv
      have hk := idxP_some hv
      exact ⟨_, hk, .more (d := d) hw hd (List.mem_of_getElem? hk)⟩) ⟨e, he, .one (List.mem_of_getElem? he)⟩
    have hto : ∀ x, x ∈ l → Way ps e x := fun x hx => by
      obtain ⟨v, hv, hn⟩ := (parts_at h x).1 hx
      obtain ⟨y, hy, hw⟩ := hall v ((hmem v).2 hn)
      rw [hv] at hy
      injection hy with hy
      rw [hy]; exact hw
    exact (hto p hp).symm.trans (hto q hq)
  · intro hw
    induction hw with
    | one _ => exact hp
    | @more q d hw hd hn ih =>
      obtain ⟨v, hv, hnm⟩ := (parts_at h q).1 ih
      obtain ⟨u, hu⟩ := List.getElem?_of_mem hn
      have hnb : nbP ps v d = some u := by
        unfold nbP
        rw [hv]
        exact hS.idx hu
      exact (parts_at h _).2 ⟨u, hu, allP_near (nbP_sym hS) _ v d u (i + 1) (Nat.succ_ne_zero _) hnm hd hnb⟩
theorem part_all {p : Pt} (hp : p ∈ ps) : ∃ (i : Nat) (l : List Pt), (partsP ps)[i]? = some l ∧ p ∈ l := by
  obtain ⟨v, hv⟩ := List.getElem?_of_mem hp
  have hvn := (List.getElem?_eq_some_iff.1 hv).1
  obtain ⟨c, hc⟩ : ∃ c, (allP (nbP ps) ps.length ps.length).1[v]? = some c := ⟨_, List.getElem?_eq_getElem (by rw [allP_len]; exact hvn)⟩
  have h0 : c ≠ 0 := fun e => allP_done ps.length v hvn (by rw [hc, e])
  have hr := allP_rng _ v c hc
  have hil : c - 1 < (partsP ps).length := by
    unfold partsP
    rw [List.length_map, partsN_len]
    omega
  obtain ⟨l, hl⟩ : ∃ l, (partsP ps)[c - 1]? = some l := ⟨_, List.getElem?_eq_getElem hil⟩
  exact ⟨c - 1, l, hl, (parts_at hl p).2 ⟨v, hv, by rw [hc]; congr 1; omega⟩⟩
theorem part_uniq (hS : Shp ps) {i j : Nat} {l m : List Pt} (hi : (partsP ps)[i]? = some l) (hj : (partsP ps)[j]? = some m) {p : Pt} (h1 : p ∈ l) (h2 : p ∈ m) : i = j := by
  obtain ⟨v, hv, hn⟩ := (parts_at hi p).1 h1
  obtain ⟨u, hu, hm⟩ := (parts_at hj p).1 h2
  rw [hS.inj hv hu, hm] at hn
  injection hn with hn
  omega
end
/-- classes of the points of S for which G is true -/
structure Cls (S : List Pt) (G : Pt → Prop) (P : List (List Pt)) : Prop where
  pos : ∀ l ∈ P, ∃ p, p ∈ l ∧ p ∈ S ∧ G p
  way : ∀ l ∈ P, ∀ p ∈ l, ∀ q ∈ l, Way S p q
  off : P.Pairwise fun l m => ∀ p ∈ l, ∀ q ∈ m, ¬ Way S p q
  all : ∀ p ∈ S, G p → ∃ l ∈ P, p ∈ l
theorem parts_cls {ps : List Pt} (hS : Shp ps) : Cls ps (fun _ => True) (partsP ps) := by
  refine ⟨fun l hl => ?_, fun l hl p hp q hq => ?_, ?_, fun p hp _ => ?_⟩
  · obtain ⟨p, hp⟩ := List.exists_mem_of_length_pos (partsP_pos hl)
    exact ⟨p, hp, (partsP_mem hl).1 p hp, trivial⟩
  · obtain ⟨i, hi⟩ := List.getElem?_of_mem hl
    exact (part_way hS hi hp).1 hq
  · rw [List.pairwise_iff_getElem]
    intro i j hi hj hlt p hp q hq hw
    have h1 := List.getElem?_eq_getElem hi
    have h2 := List.getElem?_eq_getElem hj
    have := part_uniq hS h1 h2 ((part_way hS h1 hp).2 hw) hq
    omega
  · obtain ⟨i, l, hl, hpl⟩ := part_all hp
    exact ⟨l, List.mem_of_getElem? hl, hpl⟩
theorem pick_le {α β : Type} [DecidableEq β] : ∀ (P : List α) (Q : List β) (R : α → β → Prop), (∀ a ∈ P, ∃ b ∈ Q, R a b) → (P.Pairwise fun a a' => ∀ b, ¬ (R a b ∧ R a' b)) → P.length ≤ Q.length
  | [], Q, R, _, _ => Nat.zero_le _
  | a :: P, Q, R, h1, h2 => by
    obtain ⟨b, hb, hR⟩ := h1 a (List.mem_cons_self ..)
    rw [List.pairwise_cons] at h2
    have ih := pick_le P (Q.erase b) R (fun x hx => by
      obtain ⟨c, hc, hx2⟩ := h1 x (List.mem_cons_of_mem _ hx)
      refine ⟨c, (List.mem_erase_of_ne (fun e => h2.1 x hx b ⟨hR, by rw [← e]; exact hx2⟩)).2 hc, hx2⟩) h2.2
    rw [List.length_erase_of_mem hb] at ih
    have := List.length_pos_of_mem hb
    rw [List.length_cons]
    omega
/-- a map under which apart stays apart -/
theorem cls_le {S T : List Pt} {G H : Pt → Prop} {P Q : List (List Pt)} (h : Cls S G P) (k : Cls T H Q) (f : Pt → Pt) (h1 : ∀ p ∈ S, G p → f p ∈ T ∧ H (f p)) (h2 : ∀ p q, p ∈ S → q ∈ S → Way T (f p) (f q) → Way S p q) : P.length ≤ Q.length := by
  refine pick_le P Q (fun l m => m ∈ Q ∧ ∃ p, p ∈ l ∧ p ∈ S ∧ f p ∈ m) (fun l hl => ?_) (List.Pairwise.imp_of_mem (fun {l m} hl hm hlm b => ?_) h.off)
  · obtain ⟨p, hp, hs, hg⟩ := h.pos l hl
    obtain ⟨a, b⟩ := h1 p hs hg
    obtain ⟨m, hm, hpm⟩ := k.all _ a b
    exact ⟨m, hm, hm, p, hp, hs, hpm⟩
  · rintro ⟨⟨hb, p, hp, hs, hf⟩, _, q, hq, hs2, hf2⟩
    exact hlm p hp q hq (h2 p q hs hs2 (k.way b hb _ hf _ hf2))
/-- not joined to the edge -/
def inner (ps : List Pt) (p : Pt) : Prop := ∀ q, Way (freeB ps) p q → edgeB ps q = false
theorem holes_cls {ps : List Pt} (hS : Shp ps) (hn : 0 < ps.length) : Cls (freeB ps) (inner ps) (holesB ps) := by
  have hF := freeB_shp hS hn
  have h := parts_cls hF
  have hin : ∀ l ∈ holesB ps, l ∈ partsP (freeB ps) ∧ ∀ q ∈ l, edgeB ps q = false := fun l hl => by
    unfold holesB at hl
    obtain ⟨h1, h2⟩ := List.mem_filter.1 hl
    refine ⟨h1, fun q hq => ?_⟩
    simp only [Bool.not_eq_true', List.any_eq_false] at h2
    exact Bool.not_eq_true _ ▸ h2 q hq
  refine ⟨fun l hl => ?_, fun l hl p hp q hq => h.way l (hin l hl).1 p hp q hq, List.Pairwise.sublist List.filter_sublist h.off, fun p hp hg => ?_⟩
  · obtain ⟨p, hp, hs, _⟩ := h.pos l (hin l hl).1
    obtain ⟨i, hi⟩ := List.getElem?_of_mem (hin l hl).1
    exact ⟨p, hp, hs, fun q hw => (hin l hl).2 q ((part_way hF hi hp).2 hw)⟩
  · obtain ⟨l, hl, hpl⟩ := h.all p hp trivial
    refine ⟨l, ?_, hpl⟩
    unfold holesB
    refine List.mem_filter.2 ⟨hl, ?_⟩
    simp only [Bool.not_eq_true', List.any_eq_false]
    intro q hq
    rw [hg q (h.way l hl p hpl q hq)]
    decide
/-- a map of the free points of one shape to those of another that keeps ways and edges -/
structure Fmap (ps qs : List Pt) (f : Pt → Pt) : Prop where
  mem : ∀ p ∈ freeB ps, f p ∈ freeB qs
  step : ∀ p d, p ∈ freeB ps → d < 4 → nbr p d ∈ freeB ps → Way (freeB qs) (f p) (f (nbr p d))
  edge : ∀ p ∈ freeB ps, edgeB ps p = true → ∃ r, Way (freeB qs) (f p) r ∧ edgeB qs r = true
theorem holes_le {ps qs : List Pt} (hS : Shp ps) (hn : 0 < ps.length) (hT : Shp qs) (hm : 0 < qs.length) {f g : Pt → Pt} (hf : Fmap ps qs f) (hg : Fmap qs ps g) (hgf : ∀ p ∈ freeB ps, Way (freeB ps) (g (f p)) p) : (holesB ps).length ≤ (holesB qs).length := by
  have back : ∀ a b, Way (freeB qs) a b → Way (freeB ps) (g a) (g b) := fun a b h => h.map hg.mem hg.step
  refine cls_le (holes_cls hS hn) (holes_cls hT hm) f (fun p hp hG => ⟨hf.mem p hp, fun q hw => ?_⟩) (fun p q hp hq hw => ?_)
  · cases he : edgeB qs q with
    | false => rfl
    | true =>
      obtain ⟨r, hr, hre⟩ := hg.edge q hw.right he
      have := hG r (((hgf p hp).symm.trans (back _ _ hw)).trans hr)
      rw [hre] at this
      cases this
  · exact ((hgf p hp).symm.trans (back _ _ hw)).trans (hgf q hq)
theorem holes_eq {ps qs : List Pt} (hS : Shp ps) (hn : 0 < ps.length) (hT : Shp qs) (hm : 0 < qs.length) {f g : Pt → Pt} (hf : Fmap ps qs f) (hg : Fmap qs ps g) (hgf : ∀ p ∈ freeB ps, Way (freeB ps) (g (f p)) p) (hfg : ∀ q ∈ freeB qs, Way (freeB qs) (f (g q)) q) : (holesB ps).length = (holesB qs).length :=
  Nat.le_antisymm (holes_le hS hn hT hm hf hg hgf) (holes_le hT hm hS hn hg hf hfg)
/-- the same for the parts of the shapes themselves -/
theorem parts_eq {ps qs : List Pt} (hS : Shp ps) (hT : Shp qs) {f g : Pt → Pt} (f1 : ∀ p ∈ ps, f p ∈ qs) (f2 : ∀ p d, p ∈ ps → d < 4 → nbr p d ∈ ps → Way qs (f p) (f (nbr p d))) (g1 : ∀ p ∈ qs, g p ∈ ps) (g2 : ∀ p d, p ∈ qs → d < 4 → nbr p d ∈ qs → Way ps (g p) (g (nbr p d)))
    (hgf : ∀ p ∈ ps, Way ps (g (f p)) p) (hfg : ∀ q ∈ qs, Way qs (f (g q)) q) : (partsP ps).length = (partsP qs).length :=
  Nat.le_antisymm (cls_le (parts_cls hS) (parts_cls hT) f (fun p hp _ => ⟨f1 p hp, trivial⟩) fun p q hp hq hw => ((hgf p hp).symm.trans (hw.map g1 g2)).trans (hgf q hq))
    (cls_le (parts_cls hT) (parts_cls hS) g (fun p hp _ => ⟨g1 p hp, trivial⟩) fun p q hp hq hw => ((hfg p hp).symm.trans (hw.map f1 f2)).trans (hfg q hq))
end Go.Proofs.Ytkppijcjmhkkkaa
/- Plain: a scaled shape has as many parts and as many holes. -/


namespace Go.Proofs.Ytkppijcjmhkkkaa
open Go.RowKit
set_option linter.unusedSectionVars false
theorem freeB_mem {ps : List Pt} (hS : Shp ps) (hn : 0 < ps.length) {p : Pt} : p ∈ freeB ps ↔ (((boxB ps).lx ≤ p.x ∧ p.x ≤ (boxB ps).hx) ∧ (boxB ps).ly ≤ p.y ∧ p.y ≤ (boxB ps).hy) ∧ p ∉ ps := by
  unfold freeB
  rw [List.mem_filter, rectB_mem hS hn]
  simp
/-- each side of the rectangle has a point -/
theorem boxB_at {ps : List Pt} (hn : 0 < ps.length) : (∃ p ∈ ps, p.x = (boxB ps).lx) ∧ (∃ p ∈ ps, p.x = (boxB ps).hx) ∧ (∃ p ∈ ps, p.y = (boxB ps).ly) ∧ (∃ p ∈ ps, p.y = (boxB ps).hy) := by
  have hm : ∀ k, k < ps.length ∨ k = 0 → ptA ps k ∈ ps := fun k hk => by
    obtain ⟨e, he⟩ : ∃ e, ps[k]? = some e := ⟨_, List.getElem?_eq_getElem (by omega)⟩
    rw [ptA_of he]
    exact List.mem_of_getElem? he
  obtain ⟨⟨a, a1, a2⟩, ⟨b, b1, b2⟩, ⟨c, c1, c2⟩, ⟨d, d1, d2⟩⟩ := bxN_at ps ps.length
  exact ⟨⟨_, hm a a1, a2⟩, ⟨_, hm b b1, b2⟩, ⟨_, hm c c1, c2⟩, ⟨_, hm d d1, d2⟩⟩
/-- the rectangle, by its sides -/
theorem boxB_is {ps : List Pt} (hn : 0 < ps.length) {a b c d : Int} (h : ∀ p ∈ ps, (a ≤ p.x ∧ p.x ≤ b) ∧ c ≤ p.y ∧ p.y ≤ d) (h1 : ∃ p ∈ ps, p.x = a) (h2 : ∃ p ∈ ps, p.x = b) (h3 : ∃ p ∈ ps, p.y = c) (h4 : ∃ p ∈ ps, p.y = d) : (boxB ps).lx = a ∧ (boxB ps).hx = b ∧ (boxB ps).ly = c ∧ (boxB ps).hy = d := by
  obtain ⟨⟨p1, m1, e1⟩, ⟨p2, m2, e2⟩, ⟨p3, m3, e3⟩, ⟨p4, m4, e4⟩⟩ := boxB_at hn
  obtain ⟨q1, n1, f1⟩ := h1
  obtain ⟨q2, n2, f2⟩ := h2
  obtain ⟨q3, n3, f3⟩ := h3
  obtain ⟨q4, n4, f4⟩ := h4
  have a1 := h p1 m1
  have a2 := h p2 m2
  have a3 := h p3 m3
  have a4 := h p4 m4
  have b1 := boxB_in n1
  have b2 := boxB_in n2
  have b3 := boxB_in n3
  have b4 := boxB_in n4
  omega
def upK (k : Nat) (p : Pt) : Pt := ⟨(k : Int) * p.x, (k : Int) * p.y⟩
def dvK (k : Nat) (q : Pt) : Pt := ⟨q.x / (k : Int), q.y / (k : Int)⟩
def offK (k : Nat) (p : Pt) (i j : Nat) : Pt := ⟨(k : Int) * p.x + (i : Int), (k : Int) * p.y + (j : Int)⟩
section
variable {k : Nat} (hk : 1 ≤ k ∧ k ≤ 3)
include hk
theorem dv_off {p : Pt} {i j : Nat} (hi : i < k) (hj : j < k) : dvK k (offK k p i j) = p := by
  unfold dvK offK
  simp only [cell_div hk hi, cell_div hk hj]
theorem dv_up {p : Pt} : dvK k (upK k p) = p := by
  have h := dv_off hk (p := p) (i := 0) (j := 0) (by omega) (by omega)
  unfold offK at h
  unfold upK
  simpa using h
theorem off_dv (q : Pt) : ∃ i j, i < k ∧ j < k ∧ q = offK k (dvK k q) i j := by
  have h1 := Int.mul_ediv_add_emod q.x (k : Int)
  have h2 := Int.mul_ediv_add_emod q.y (k : Int)
  have h3 := Int.emod_nonneg q.x (show (k : Int) ≠ 0 by omega)
  have h4 := Int.emod_nonneg q.y (show (k : Int) ≠ 0 by omega)
  have h5 := Int.emod_lt_of_pos q.x (show (0 : Int) < k by omega)
  have h6 := Int.emod_lt_of_pos q.y (show (0 : Int) < k by omega)
  refine ⟨(q.x % (k : Int)).toNat, (q.y % (k : Int)).toNat, by omega, by omega, ?_⟩
  unfold offK dvK
  cases q with
  | mk x y =>
    simp only at *
    rw [Int.toNat_of_nonneg h3, Int.toNat_of_nonneg h4, h1, h2]
theorem scS_iff {ps : List Pt} {q : Pt} : q ∈ scS k ps ↔ dvK k q ∈ ps := by
  rw [scS_mem]
  constructor
  · rintro ⟨p, hp, i, j, hi, hj, rfl⟩
    have := dv_off hk (p := p) hi hj
    unfold offK at this
    rw [this]; exact hp
  · intro h
    obtain ⟨i, j, hi, hj, he⟩ := off_dv hk q
    exact ⟨dvK k q, h, i, j, hi, hj, he⟩
/-- a step stays in the cell's block or goes to the block beside it -/
theorem dv_nbr (q : Pt) {d : Nat} (hd : d < 4) : dvK k (nbr q d) = dvK k q ∨ dvK k (nbr q d) = nbr (dvK k q) d := by
  have h4 : d = 0 ∨ d = 1 ∨ d = 2 ∨ d = 3 := by omega
  cases q with
  | mk x y =>
    rcases k123 hk with rfl | rfl | rfl <;> rcases h4 with rfl | rfl | rfl | rfl <;> simp [dvK, nbr, stepX, stepY] <;> omega
section
variable {S T : List Pt} (hT : ∀ q, q ∈ T ↔ dvK k q ∈ S)
include hT
theorem row_way {p : Pt} (hp : p ∈ S) {j : Nat} (hj : j < k) : ∀ i, i < k → Way T (offK k p 0 j) (offK k p i j)
  | 0, h => .one ((hT _).2 (by rw [dv_off hk (by omega) hj]; exact hp))
  | i + 1, h => by
    have ih := row_way hp hj i (by omega)
    have e : nbr (offK k p i j) 1 = offK k p (i + 1) j := by simp [nbr, offK, stepX, stepY]; omega
    have := Way.more (d := 1) ih (by omega) (by rw [e]; exact (hT _).2 (by rw [dv_off hk h hj]; exact hp))
    rw [e] at this
    exact this
theorem col_way {p : Pt} (hp : p ∈ S) : ∀ j, j < k → Way T (offK k p 0 0) (offK k p 0 j)
  | 0, h => .one ((hT _).2 (by rw [dv_off hk (by omega) (by omega)]; exact hp))
  | j + 1, h => by
    have ih := col_way hp j (by omega)
    have e : nbr (offK k p 0 j) 0 = offK k p 0 (j + 1) := by simp [nbr, offK, stepX, stepY]; omega
    have := Way.more (d := 0) ih (by omega) (by rw [e]; exact (hT _).2 (by rw [dv_off hk (by omega) h]; exact hp))
    rw [e] at this
    exact this
theorem up_off (p : Pt) : upK k p = offK k p 0 0 := by simp [upK, offK]
theorem blk_way {p : Pt} (hp : p ∈ S) {i j : Nat} (hi : i < k) (hj : j < k) : Way T (upK k p) (offK k p i j) := by
  rw [up_off hk hT]
  exact (col_way hk hT hp j hj).trans (row_way hk hT hp hj i hi)
theorem up_mem {p : Pt} (hp : p ∈ S) : upK k p ∈ T := (hT _).2 (by rw [dv_up hk]; exact hp)
/-- blocks beside each other are joined -/
theorem up_step {p : Pt} {d : Nat} (hp : p ∈ S) (hd : d < 4) (hn : nbr p d ∈ S) : Way T (upK k p) (upK k (nbr p d)) := by
  have h4 : d = 0 ∨ d = 1 ∨ d = 2 ∨ d = 3 := by omega
  have go : ∀ i j u v, i < k → j < k → u < k → v < k → nbr (offK k p i j) d = offK k (nbr p d) u v → Way T (upK k p) (upK k (nbr p d)) := fun i j u v hi hj hu hv e => by
    have h1 := blk_way hk hT hp hi hj
    have h2 := blk_way hk hT hn hu hv
    have h3 := Way.more (d := d) h1 hd (by rw [e]; exact h2.right)
    rw [e] at h3
    exact h3.trans h2.symm
  rcases h4 with rfl | rfl | rfl | rfl
  · exact go 0 (k - 1) 0 0 (by omega) (by omega) (by omega) (by omega) (by rcases k123 hk with rfl | rfl | rfl <;> simp [nbr, offK, stepX, stepY] <;> omega)
  · exact go (k - 1) 0 0 0 (by omega) (by omega) (by omega) (by omega) (by rcases k123 hk with rfl | rfl | rfl <;> simp [nbr, offK, stepX, stepY] <;> omega)
  · exact go 0 0 0 (k - 1) (by omega) (by omega) (by omega) (by omega) (by rcases k123 hk with rfl | rfl | rfl <;> simp [nbr, offK, stepX, stepY] <;> omega)
  · exact go 0 0 (k - 1) 0 (by omega) (by omega) (by omega) (by omega) (by rcases k123 hk with rfl | rfl | rfl <;> simp [nbr, offK, stepX, stepY] <;> omega)
theorem dv_step {q : Pt} {d : Nat} (hq : q ∈ T) (hd : d < 4) (hn : nbr q d ∈ T) : Way S (dvK k q) (dvK k (nbr q d)) := by
  have h1 := (hT _).1 hq
  have h2 := (hT _).1 hn
  rcases dv_nbr hk q hd with e | e
  · rw [e]; exact .one h1
  · rw [e] at h2 ⊢; exact .near h1 hd h2
theorem up_dv {q : Pt} (hq : q ∈ T) : Way T (upK k (dvK k q)) q := by
  obtain ⟨i, j, hi, hj, he⟩ := off_dv hk q
  have h := blk_way hk hT ((hT _).1 hq) hi hj
  rw [← he] at h
  exact h
theorem dv_up_way {p : Pt} (hp : p ∈ S) : Way S (dvK k (upK k p)) p := by rw [dv_up hk]; exact .one hp
end
section
variable {ps : List Pt} (hS : Shp ps) (hn : 0 < ps.length) (hT : Shp (scS k ps)) (hm : 0 < (scS k ps).length)
include hn hm
theorem sc_box : (boxB (scS k ps)).lx = (k : Int) * (boxB ps).lx ∧ (boxB (scS k ps)).hx = (k : Int) * (boxB ps).hx + ((k : Int) - 1) ∧ (boxB (scS k ps)).ly = (k : Int) * (boxB ps).ly ∧ (boxB (scS k ps)).hy = (k : Int) * (boxB ps).hy + ((k : Int) - 1) := by
  have hmem : ∀ {p : Pt} {i j : Nat}, p ∈ ps → i < k → j < k → offK k p i j ∈ scS k ps := fun hp hi hj => (scS_iff hk).2 (by rw [dv_off hk hi hj]; exact hp)
  obtain ⟨⟨p1, m1, e1⟩, ⟨p2, m2, e2⟩, ⟨p3, m3, e3⟩, ⟨p4, m4, e4⟩⟩ := boxB_at hn
  refine boxB_is hm (fun q hq => ?_) ⟨_, hmem m1 (show 0 < k by omega) (show 0 < k by omega), by simp [offK, e1]⟩ ⟨_, hmem m2 (show k - 1 < k by omega) (show 0 < k by omega), by simp only [offK, e2]; omega⟩ ⟨_, hmem m3 (show 0 < k by omega) (show 0 < k by omega), by simp [offK, e3]⟩ ⟨_, hmem m4 (show 0 < k by omega) (show k - 1 < k by omega), by simp only [offK, e4]; omega⟩
  obtain ⟨i, j, hi, hj, he⟩ := off_dv hk q
  have hb := boxB_in ((scS_iff hk).1 hq)
  rw [he]
  simp only [offK]
  rcases k123 hk with rfl | rfl | rfl <;> omega
include hS hT
theorem sc_free (q : Pt) : q ∈ freeB (scS k ps) ↔ dvK k q ∈ freeB ps := by
  rw [freeB_mem hT hm, freeB_mem hS hn, scS_iff hk]
  obtain ⟨e1, e2, e3, e4⟩ := sc_box hk hn hm
  rw [e1, e2, e3, e4]
  have : (((k : Int) * (boxB ps).lx ≤ q.x ∧ q.x ≤ (k : Int) * (boxB ps).hx + ((k : Int) - 1)) ∧ (k : Int) * (boxB ps).ly ≤ q.y ∧ q.y ≤ (k : Int) * (boxB ps).hy + ((k : Int) - 1)) ↔ (((boxB ps).lx ≤ (dvK k q).x ∧ (dvK k q).x ≤ (boxB ps).hx) ∧ (boxB ps).ly ≤ (dvK k q).y ∧ (dvK k q).y ≤ (boxB ps).hy) := by
    unfold dvK
    rcases k123 hk with rfl | rfl | rfl <;> simp only <;> omega
  rw [this]
theorem sc_holes : (holesB ps).length = (holesB (scS k ps)).length := by
  have hF := sc_free hk hS hn hT hm
  obtain ⟨e1, e2, e3, e4⟩ := sc_box hk hn hm
  refine holes_eq hS hn hT hm (f := upK k) (g := dvK k) ⟨fun p hp => up_mem hk hF hp, fun p d hp hd hnb => up_step hk hF hp hd hnb, fun p hp he => ?_⟩ ⟨fun q hq => (hF q).1 hq, fun q d hq hd hnb => dv_step hk hF hq hd hnb, fun q hq he => ?_⟩ (fun p hp => dv_up_way hk hF hp) (fun q hq => up_dv hk hF hq)
  · unfold edgeB at he ⊢
    rw [e1, e2, e3, e4]
    simp only [Bool.or_eq_true, beq_iff_eq] at he
    rcases he with ((he | he) | he) | he
    · exact ⟨_, blk_way hk hF hp (show 0 < k by omega) (show 0 < k by omega), by simp [offK, he]⟩
    · exact ⟨_, blk_way hk hF hp (show k - 1 < k by omega) (show 0 < k by omega), by
        have : (offK k p (k - 1) 0).x = (k : Int) * (boxB ps).hx + ((k : Int) - 1) := by simp only [offK, he]; omega
        simp [this]⟩
    · exact ⟨_, blk_way hk hF hp (show 0 < k by omega) (show 0 < k by omega), by simp [offK, he]⟩
    · exact ⟨_, blk_way hk hF hp (show 0 < k by omega) (show k - 1 < k by omega), by
        have : (offK k p 0 (k - 1)).y = (k : Int) * (boxB ps).hy + ((k : Int) - 1) := by simp only [offK, he]; omega
        simp [this]⟩
  · refine ⟨dvK k q, .one ((hF q).1 hq), ?_⟩
    unfold edgeB at he ⊢
    rw [e1, e2, e3, e4] at he
    simp only [Bool.or_eq_true, beq_iff_eq] at he ⊢
    unfold dvK
    simp only
    rcases k123 hk with rfl | rfl | rfl <;> omega
theorem sc_parts : (partsP ps).length = (partsP (scS k ps)).length := by
  have hF : ∀ q, q ∈ scS k ps ↔ dvK k q ∈ ps := fun q => scS_iff hk
  exact parts_eq hS hT (f := upK k) (g := dvK k) (fun p hp => up_mem hk hF hp) (fun p d hp hd hnb => up_step hk hF hp hd hnb) (fun q hq => (hF q).1 hq) (fun q d hq hd hnb => dv_step hk hF hq hd hnb) (fun p hp => dv_up_way hk hF hp) (fun q hq => up_dv hk hF hq)
end
end
end Go.Proofs.Ytkppijcjmhkkkaa
