import Derived.Test.YtkppijcjmhkkkaaGBH
import Derived.Test.YtkppijcjmhkkkaaGAL
import Derived.Test.YtkppijcjmhkkkaaGBG
import Derived.Test.YtkppijcjmhkkkaaGAP
import Derived.Test.YtkppijcjmhkkkaaGAY
import Derived.Test.YtkppijcjmhkkkaaGBE
set_option linter.unusedSimpArgs false
set_option linter.unusedVariables false
/- Walks: the holes of a shape, the reference; HolesOf of both. -/





namespace Go.Proofs.Ytkppijcjmhkkkaa
open Go.RowKit Go.Shelf
attribute [local go_sem] BelowBy.cell BelowBy.cell_drew stillUpon givesUpon

/-- the free points of the first i places of row j -/
def freeN (ps L : List Pt) : List Pt := L.filter fun p => !decide (p ∈ ps)
theorem freeN_snoc (ps L : List Pt) (e : Pt) : freeN ps (L ++ [e]) = freeN ps L ++ (if e ∈ ps then [] else [e]) := by
  unfold freeN
  rw [List.filter_append]
  by_cases h : e ∈ ps <;> simp [h]
theorem freeN_len (ps L : List Pt) : (freeN ps L).length ≤ L.length := List.length_filter_le _ _
/-- the parts of the first t that are kept -/
def holesN (ps : List Pt) (P : List (List Pt)) : List (List Pt) := P.filter fun l => !(l.any (edgeB ps))
theorem holesN_snoc (ps : List Pt) (P : List (List Pt)) (l : List Pt) : holesN ps (P ++ [l]) = holesN ps P ++ (if l.any (edgeB ps) then [] else [l]) := by
  unfold holesN
  rw [List.filter_append]
  cases h : l.any (edgeB ps) <;> simp [h]
def holR (ps : List Pt) : List (List Pt) × Int := if shapeB ps then (holesB ps, 0) else ([], 1)
/-- rows of points that the call has made, and a code -/
def RowsC (w : World) (r : List (List Pt) × Int) (e : Ending) (w' : World) : Prop :=
  ∃ A c us, e = .returned (.tuple #[.slice A r.1.length c, .int .i64 r.2]) ∧ Own2 w' w.heap.size 24 49 2 (.slice A r.1.length c) us (r.1.map ptCells) ∧ Below w.heap.size w w'
theorem shapeCode_at {A : Option Addr} {n c : Nat} {ps : List Pt} {r : Bool} {w : World} (h : RdSl 2 RPt w A n ps) (hn : n ≤ 1073741824) (hr : shapeB ps = r) :
    Calls Try.prog 22 #[.slice A n c, .bool true] w fun e w' => e = .returned (.int .i64 (if r then 0 else 1)) ∧ Below w.heap.size w w' := by
  have hH := Lib.hid h
  have hrH := Lib.hid hr
  clear h hr
  cases r
  · go_enter Try.func22, Try.ntmps22
    go_wp2_with (go_at_call 36; refine (ValidShape_any _ _ _ ps _ hH.out hn).mono ?_; rw [hrH.out]; rintro e w1 ⟨rfl, hb1⟩; have hb1H := Lib.hid hb1; clear hb1)
    go_ret
    exact ⟨rfl, hb1H.out⟩
  · go_enter Try.func22, Try.ntmps22
    go_wp2_with (go_at_call 36; refine (ValidShape_any _ _ _ ps _ hH.out hn).mono ?_; rw [hrH.out]; rintro e w1 ⟨rfl, hb1⟩; have hb1H := Lib.hid hb1; clear hb1)
    go_ret
    exact ⟨rfl, hb1H.out⟩
set_option maxHeartbeats 1000000 in
theorem HolesOf_any (A : Option Addr) (n c : Nat) (ps : List Pt) (w : World) (h : RdSl 2 RPt w A n ps) (hn : n ≤ 1073741824) :
    Calls Try.prog 13 #[.slice A n c] w (RowsC w (holR ps)) := by
  have hl := Lib.hid h.len
  have hH := Lib.hid h
  clear h
  cases hb : shapeB ps
  · have hR := Lib.hid (show holR ps = ([], 1) by unfold holR; rw [hb]; rfl)
    have hbH := Lib.hid hb
    clear hb
    go_enter Try.func13, Try.ntmps13
    go_wp2_with (go_at_call 22; refine (shapeCode_at hH.out hn hbH.out).mono ?_; rintro e w1 ⟨rfl, hb1⟩; have hb1H := Lib.hid hb1; clear hb1)
    go_ret2
    rw [hR.out]
    exact ⟨none, 0, [], rfl, Own2.nil _ _ _ _ _, hb1H.out⟩
  · have hR := Lib.hid (show holR ps = (holesB ps, 0) by unfold holR; rw [hb]; rfl)
    obtain ⟨hS, hp1, hp2⟩ := shp_of hb
    rw [hl.out] at hp1 hp2
    have hSH := Lib.hid hS
    have hbH := Lib.hid hb
    clear hb hS
    go_enter Try.func13, Try.ntmps13
    go_wp2_with (first
      | (go_at_call 22; refine (shapeCode_at hH.out hn hbH.out).mono ?_; rintro e w1 ⟨rfl, hb1⟩; have hb1H := Lib.hid hb1; clear hb1)
      | (go_at_call 35; refine (holes_any _ _ _ ps _ (hH.out.below RPt.stable hb1H.out) hSH.out (by omega) (by omega)).mono ?_; rintro e w2 ⟨A2, c2, us, rfl, hO2, hb2⟩; have hO2H := Lib.hid hO2; have hb2H := Lib.hid hb2; clear hO2 hb2))
    go_ret2
    rw [hR.out]
    exact ⟨A2, c2, us, rfl, hO2H.out.rebase hb1H.out.size, hb1H.out.trans (hb2H.out.mono hb1H.out.size)⟩
end Go.Proofs.Ytkppijcjmhkkkaa
/- Walks: small functions of the law on scaled shapes; points of an assembly, a shape moved home. -/




namespace Go.Proofs.Ytkppijcjmhkkkaa
open Go.RowKit
attribute [local go_sem] BelowBy.cell BelowBy.cell_drew stillUpon givesUpon

theorem wrapFs {n : Int} (h1 : -9000000000000000000 ≤ n) (h2 : n ≤ 9000000000000000000) : IntKind.i64.wrap n = n := by
  simp [IntKind.wrap, IntKind.bits, IntKind.signed]; omega
set_option maxRecDepth 100000 in
set_option maxHeartbeats 1000000 in
theorem EqualPt_any {A B : Option Addr} {n n2 c c2 : Nat} {ps : List Pt} {w : World} (h : RdSl 2 RPt w A n ps) (h2 : RdSl 2 RPt w B n2 ps) (hn : n ≤ 1000000) :
    Calls Try.prog 32 #[.slice A n c, .slice B n2 c2] w fun e w' => e = .returned (.bool true) ∧ Below w.heap.size w w' := by
  obtain rfl : n = n2 := by rw [← h.len, h2.len]
  have hH := Lib.hid h
  have hH2 := Lib.hid h2
  clear h h2
  go_enter Try.func32, Try.ntmps32
  go_wp2
  go_loopg [13] n (fun g i wr => ∃ j : Nat, j + g = n ∧ i = .int .i64 (j : Int) ∧ Hid (Below w.heap.size w wr))
  case atStart => exact ⟨0, by omega, rfl, Lib.hid (bl_refl _)⟩
  case round =>
    obtain ⟨j, hj, rfl, hbw⟩ := hrel
    by_cases hjn : j < n
    · have h := hH.out.below RPt.stable hbw.out
      have h2 := hH2.out.below RPt.stable hbw.out
      obtain ⟨e, he⟩ := h.get hjn
      obtain ⟨bf, of_, hFe, hbf, hcf⟩ := h.ptr (by omega)
      obtain ⟨bg, og, hGe, hbg, hcg⟩ := h2.ptr (by omega)
      obtain ⟨d0, d1⟩ := hcf j e he
      obtain ⟨f0, f1⟩ := hcg j e he
      subst hFe
      subst hGe
      have hjI : (j : Int) < (n : Int) := by omega
      have hj0 : (0 : Int) ≤ (j : Int) := by omega
      clear hcf hcg h h2
      go_wp2
      refine wp_region_ord [(0, .q), (1, .q), (2, .q), (3, .q), (4, .q), (5, .q), (6, .q), (7, .q), (8, .q)] (by kernel_rfl) (by kernel_rfl) ?_
      simp only [pick, List.filterMap_cons, List.filterMap_nil, List.getElem?_toArray, List.getElem?_cons_zero, List.getElem?_cons_succ, Option.map_some]
      repeat (first
        | ((with_reducible refine wpD_p (fun K hK => ?_)); go_simp; refine hK _ ?_; clear hK K)
        | ((with_reducible refine wpD_q (fun K hK => ?_)); go_simp; (first | refine hK _ ?_ | (go_bits; refine hK _ ?_) | (go_bits; go_simp; refine hK _ ?_)); clear hK K)
        | ((with_reducible refine wpD_g (fun K hK => ?_)); go_simp; refine hK _ _ ?_; clear hK K)
        | ((with_reducible refine wpD_g (fun K hK => ?_)); go_simp; refine ⟨Grew.of_alloc _, hK _ _ ?_⟩; clear hK K))
      with_reducible refine wpD_nil ?_
      go_wp2
      go_roundg (n - (j + 1))
      case measure => omega
      case rel => exact ⟨j + 1, by omega, by go_num, Lib.hid (bl_dr hbw.out)⟩
    · obtain rfl : j = n := by omega
      have hjE : ¬ (j : Int) < (j : Int) := by omega
      go_wp2
      go_ret
      exact ⟨rfl, hbw.out⟩
def PtsN (w : World) (N : Nat) (l : List Pt) (e : Ending) (w' : World) : Prop := ∃ A c, e = .returned (.slice A N c) ∧ RdSl 2 RPt w' A N l ∧ Below w.heap.size w w'
theorem rdPt_own {w : World} {base : Nat} {A : Option Addr} {N c : Nat} {xs : List Pt} (h : w.ownsRow base 49 2 (.slice A N c) N (ptCells xs)) (hl : xs.length = N) : RdSl 2 RPt w A N xs := by
  subst hl
  obtain ⟨A', c', e, h1⟩ := rdPt_of_row h
  injection e with e1 e2 e3
  rw [e1]; exact h1
theorem validated_any {A : Option Addr} {n c : Nat} {ps : List Pt} {w : World} (h : RdSl 2 RPt w A n ps) (hn : n ≤ 1073741824) (hs : shapeB ps = true) :
    Calls Try.prog 24 #[.slice A n c] w fun e w' => e = .returned (.tuple #[.slice A n c, .int .i64 0]) ∧ Below w.heap.size w w' := by
  have hH := Lib.hid h
  have hsH := Lib.hid hs
  clear h hs
  go_enter Try.func24, Try.ntmps24
  go_wp2_with fail
  refine (ValidShape_any _ _ _ ps _ hH.out hn).mono ?_
  rw [hsH.out]
  rintro e w1 ⟨rfl, hb1⟩
  have hb1H := Lib.hid hb1
  clear hb1
  go_wp2
  refine bodyPost_ret (v := .tuple #[.slice A n c, .int .i64 0]) (by simp only [results, Try.results24]; go_simp) rfl ?_
  exact ⟨rfl, hb1H.out⟩
/-- a shape moved home -/
def homeP (L : List Pt) : List Pt := L.map fun p => ⟨p.x + -(bxN L L.length).lx, p.y + -(bxN L L.length).ly⟩
theorem homeP_len (L : List Pt) : (homeP L).length = L.length := by simp [homeP]
theorem bxN_le {L : List Pt} : ∀ (k j : Nat) (p : Pt), j < k → L[j]? = some p → (bxN L k).lx ≤ p.x ∧ (bxN L k).ly ≤ p.y
  | 0, j, p, h, _ => by omega
  | k + 1, j, p, h, hp => by
    simp only [bxN]
    rcases Nat.lt_or_ge j k with h1 | h1
    · have := bxN_le k j p h1 hp
      unfold mn
      constructor <;> split <;> omega
    · obtain rfl : j = k := by omega
      have : ptA L j = p := by unfold ptA; rw [hp]; rfl
      rw [this]
      unfold mn
      constructor <;> split <;> omega
theorem bxN_low {L : List Pt} {B : Int} (h : ∀ p ∈ L, B ≤ p.x ∧ B ≤ p.y) (h0 : 0 < L.length) : ∀ k, k ≤ L.length → B ≤ (bxN L k).lx ∧ B ≤ (bxN L k).ly
  | 0, _ => by
    have := h (ptA L 0) (by unfold ptA; rw [List.getElem?_eq_getElem h0]; exact List.getElem_mem h0)
    exact this
  | k + 1, hk => by
    have ih := bxN_low h h0 k (by omega)
    have := h (ptA L k) (by unfold ptA; rw [List.getElem?_eq_getElem (by omega)]; exact List.getElem_mem _)
    simp only [bxN]
    unfold mn
    constructor <;> split <;> omega
theorem home_shape {L : List Pt} (hs : SortS L) (hr : ∀ p ∈ L, (-30 ≤ p.x ∧ p.x ≤ 30) ∧ (-30 ≤ p.y ∧ p.y ≤ 30)) (h1 : 1 ≤ L.length) (h5 : L.length ≤ 500) : shapeB (homeP L) = true := by
  have hlow := bxN_low (B := -30) (fun p hp => by have := hr p hp; omega) (by omega) L.length (Nat.le_refl _)
  refine shapeB_of ?_ (fun q hq => ?_) (by rw [homeP_len]; exact h1) (by rw [homeP_len]; exact h5)
  · unfold homeP SortS
    rw [List.pairwise_map]
    refine List.Pairwise.imp ?_ hs
    intro a b hab
    rw [ltP_iff] at hab ⊢
    simp only
    omega
  · unfold homeP at hq
    obtain ⟨p, hp, rfl⟩ := List.mem_map.1 hq
    obtain ⟨j, hj⟩ := List.getElem?_of_mem hp
    have hle := bxN_le L.length j p (List.getElem?_eq_some_iff.1 hj).1 hj
    have := hr p hp
    simp only
    omega
set_option maxRecDepth 100000 in
set_option maxHeartbeats 2000000 in
theorem home_any {A : Option Addr} {n c : Nat} {ps : List Pt} {w : World} (h : RdSl 2 RPt w A n ps) (hr : ∀ p ∈ ps, (-30 ≤ p.x ∧ p.x ≤ 30) ∧ (-30 ≤ p.y ∧ p.y ≤ 30)) (h1 : 1 ≤ n) (h5 : n ≤ 500) :
    Calls Try.prog 40 #[.slice A n c] w (PtsN w n (homeP ps)) := by
  obtain ⟨i0, hi, hz0, hz1, hz2⟩ := info_parts infoPtQ
  have hl := h.len
  obtain ⟨lx, hlx⟩ : ∃ v, (bxN ps n).lx = v := ⟨_, rfl⟩
  obtain ⟨ly, hly⟩ : ∃ v, (bxN ps n).ly = v := ⟨_, rfl⟩
  have hlow := bxN_low (B := -30) (fun p hp => by have := hr p hp; omega) (by omega) n (by omega)
  have hup : lx ≤ 30 ∧ ly ≤ 30 := by
    obtain ⟨p, hp⟩ : ∃ p, ps[0]? = some p := ⟨_, List.getElem?_eq_getElem (by omega)⟩
    have := bxN_le n 0 p (by omega) hp
    have := hr p (List.mem_of_getElem? hp)
    omega
  rw [hlx, hly] at hlow
  have hrH := Lib.hid hr
  have hh := Lib.hid (show homeP ps = ps.map (fun p => ⟨p.x + -lx, p.y + -ly⟩) by unfold homeP; rw [hl, hlx, hly])
  have hH := Lib.hid h
  have hlH := Lib.hid hl
  have hnx : IntKind.i64.wrap (-lx) = -lx := wrapFs (by omega) (by omega)
  have hny : IntKind.i64.wrap (-ly) = -ly := wrapFs (by omega) (by omega)
  rw [hh.out]
  clear h hr hl hh
  go_enter Try.func40, Try.ntmps40
  go_wp2_with fail
  refine (bounds_any hH.out (by omega) (by omega)).mono ?_
  rw [hlx, hly]
  rintro e w1 ⟨rfl, hb1⟩
  have hb1H := Lib.hid hb1
  obtain ⟨hx, hhx⟩ : ∃ v, (bxN ps n).hx = v := ⟨_, rfl⟩
  obtain ⟨hy, hhy⟩ : ∃ v, (bxN ps n).hy = v := ⟨_, rfl⟩
  rw [hhx, hhy]
  clear hb1 hlx hly hhx hhy
  go_wp2_with fail
  have bL0 := (Bx.made w1 [.int .i64 lx, .int .i64 ly] 49).below (bl_al (bl_refl _) (Obj.cells #[.int .i64 hx, .int .i64 hy] 49))
  have hb2 : Below w1.heap.size w1 ((w1.alloc (Obj.cells #[.int .i64 lx, .int .i64 ly] 49)).alloc (Obj.cells #[.int .i64 hx, .int .i64 hy] 49)) := bl_al (bl_al (bl_refl _) _) _
  obtain ⟨w2, hw2⟩ : ∃ z, z = (w1.alloc (Obj.cells #[.int .i64 lx, .int .i64 ly] 49)).alloc (Obj.cells #[.int .i64 hx, .int .i64 hy] 49) := ⟨_, rfl⟩
  simp only [List.toArray] at bL0
  rw [← hw2] at bL0 hb2 ⊢
  obtain ⟨b3, hb3⟩ : ∃ b, w1.heap.size = b := ⟨_, rfl⟩
  have hs2 : w1.heap.size < w2.heap.size := by rw [hw2]; simp; omega
  simp only [hb3] at bL0 ⊢
  have hbw2 := Lib.hid (hb1H.out.trans (hb2.mono hb1H.out.size))
  have bL := Lib.hid bL0
  have hb3w : w.heap.size ≤ b3 := by have := hb1H.out.size; omega
  have hb32 : b3 < w2.heap.size := by omega
  clear hw2 hb2 hb3 bL0 hs2 hb1H
  go_loopg [15, 5] n (fun g i v wr => ∃ (k : Nat), k + g = n ∧ i = .int .i64 (k : Int) ∧ Hid (wr.ownsRow (b3 + 1) 49 2 v k (ptCells ((ps.map (fun p => (⟨p.x + -lx, p.y + -ly⟩ : Pt))).take k))) ∧ Hid (Below w.heap.size w wr) ∧ Hid (Bx wr b3 [.int .i64 lx, .int .i64 ly]))
  case atStart => exact ⟨0, by omega, rfl, Lib.hid (World.ownsRow_nil _ _ _ _), hbw2, bL⟩
  case round =>
    clear hbw2 bL hb32
    obtain ⟨k, hk, rfl, hO, hbw, bL⟩ := hrel
    have hszl := hbw.out.size
    obtain ⟨A1, c1, rfl⟩ := ownsRow_form hO.out
    by_cases hkn : k < n
    · have hkI : (k : Int) < (n : Int) := by omega
      have hAw := hH.out.below RPt.stable hbw.out
      obtain ⟨bb, ob, rfl, hbb, hbc⟩ := hAw.ptr (by omega)
      obtain ⟨e, he⟩ := hAw.get hkn
      obtain ⟨e0, e1⟩ := hbc k e he
      have her := hrH.out e (List.mem_of_getElem? he)
      have htk := Lib.hid (show (ps.map (fun p => (⟨p.x + -lx, p.y + -ly⟩ : Pt))).take (k + 1) = (ps.map (fun p => (⟨p.x + -lx, p.y + -ly⟩ : Pt))).take k ++ [⟨e.x + -lx, e.y + -ly⟩] by rw [List.take_add_one, List.getElem?_map, he]; rfl)
      have hl0 := bL.out.lt
      have hal : Below wr.heap.size wr (wr.alloc (Obj.cells #[.int .i64 e.x, .int .i64 e.y] 49)) := bl_al (bl_refl _) _
      have bL1 := Lib.hid (bL.out.below hal)
      have hO1 := Lib.hid (ownsRow_below hO.out hal)
      have hbw1 := Lib.hid (hbw.out.trans (hal.mono hszl))
      have y0 := bL1.out.cell 0 _ rfl
      have y1 := bL1.out.cell 1 _ rfl
      have ly0 := bL1.out.lt
      clear hbc he hAw hal bL hO hbw
      go_wp2_with fail
      refine (plus_any e.x e.y (-lx) (-ly) _ (by omega) (by omega) (by omega) (by omega)).mono ?_
      rintro _ w3 ⟨rfl, hb3⟩
      have bL3 := Lib.hid (bL1.out.below hb3)
      have hO3 := Lib.hid (ownsRow_below hO1.out hb3)
      have hbw3 := Lib.hid (hbw1.out.trans (hb3.mono hbw1.out.size))
      have hs3 := hbw3.out.size
      have hb3l := bL3.out.lt
      clear hb3 bL1 hO1 hbw1 y0 y1 ly0
      obtain ⟨X, hX⟩ : ∃ X : Int, e.x + -lx = X := ⟨_, rfl⟩
      obtain ⟨Y, hY⟩ : ∃ Y : Int, e.y + -ly = Y := ⟨_, rfl⟩
      have hXH := Lib.hid hX
      have hYH := Lib.hid hY
      rw [hX, hY]
      have hal : Below w3.heap.size w3 (w3.alloc (Obj.cells #[.int .i64 X, .int .i64 Y] 49)) := bl_al (bl_refl _) _
      have hO4 := Lib.hid (ownsRow_below hO3.out hal)
      have halH := Lib.hid hal
      clear hal hX hY
      go_wp2_with (at_builtin; go_loud (refine wpList_append_own_at _ rfl _ _ 24 rfl (b3 + 1) 49 i0 (.agg #[.int .i64 0, .int .i64 0]) 2 16 Try.underlying24 hi hz0 hz1 hz2 rfl (by decide) (.slice A1 k c1) k (ptCells ((ps.map (fun p => (⟨p.x + -lx, p.y + -ly⟩ : Pt))).take k)) rfl hO4.out ⟨w3.heap.size, 0, none⟩ 1 1 [.int .i64 X, .int .i64 Y] rfl rfl (cell_pt2 _ _ _ _) (fun x hx => by simp at hx; rcases hx with rfl | rfl <;> rfl) (by unfold maxLen; omega) (by omega) (by simp; omega) ?_; intro v9 w9 hown9 hgrow9 hat9 hat9b; have hs9 := halH.out.size; have bw9 := Lib.hid ((hbw3.out.trans (halH.out.mono hs3)).grown hgrow9 (by omega) (fun g e => by have := (hO4.out.lt g e).1; omega)); have bL9 := Lib.hid ((bL3.out.below halH.out).grown hgrow9 (fun e => by have := (hO4.out.lt _ e).1; omega)); have hown9H := Lib.hid hown9; clear hown9 hgrow9 hat9 hat9b hs9))
      go_roundg (n - (k + 1))
      case measure => omega
      case rel => exact ⟨k + 1, by omega, by go_num, Lib.hid (by rw [htk.out, ptCells_snoc, hXH.out, hYH.out]; exact hown9H.out), bw9, bL9⟩
    · obtain rfl : k = n := by omega
      have hkI : ¬ (k : Int) < (k : Int) := by omega
      have ht := Lib.hid (show (ps.map (fun p => (⟨p.x + -lx, p.y + -ly⟩ : Pt))).take k = ps.map (fun p => (⟨p.x + -lx, p.y + -ly⟩ : Pt)) from List.take_of_length_le (by rw [List.length_map, hlH.out]; exact Nat.le_refl _))
      go_wp2
      go_ret
      have hF := hO.out
      rw [ht.out] at hF
      exact ⟨A1, c1, rfl, rdPt_own hF (by rw [List.length_map, hlH.out]), hbw.out⟩
theorem HomeShape_any {A : Option Addr} {n c : Nat} {ps hs : List Pt} {w : World} (h : RdSl 2 RPt w A n ps) (hsh : shapeB ps = true) (hr : ∀ p ∈ ps, (-29 ≤ p.x ∧ p.x ≤ 29) ∧ (-29 ≤ p.y ∧ p.y ≤ 29)) (hh : homeP ps = hs) :
    Calls Try.prog 18 #[.slice A n c] w fun e w' => ∃ B c', e = .returned (.tuple #[.slice B n c', .int .i64 0]) ∧ RdSl 2 RPt w' B n hs ∧ Below w.heap.size w w' := by
  subst hh
  obtain ⟨hShp, h1, h5⟩ := shp_of hsh
  have hl := h.len
  have hhs := Lib.hid (home_shape hShp.sortS (fun p hp => by have := hr p hp; omega) h1 h5)
  have hn1 : 1 ≤ n := by omega
  have hn5 : n ≤ 500 := by omega
  have hH := Lib.hid h
  have hshH := Lib.hid hsh
  have hrH := Lib.hid hr
  clear h hsh hr hShp h1 h5 hl
  go_enter Try.func18, Try.ntmps18
  go_wp2_with fail
  refine (shapeCode_at hH.out (by omega) hshH.out).mono ?_
  rintro e w1 ⟨rfl, hb1⟩
  have hb1H := Lib.hid hb1
  clear hb1
  go_wp2_with fail
  refine (home_any (hH.out.below RPt.stable hb1H.out) (fun p hp => by have := hrH.out p hp; omega) hn1 hn5).mono ?_
  rintro e w2 ⟨B, cb, rfl, hR, hb2⟩
  have hRH := Lib.hid hR
  have hb2H := Lib.hid (hb1H.out.trans (hb2.mono hb1H.out.size))
  clear hR hb2
  go_wp2_with fail
  refine (validated_any hRH.out (by omega) hhs.out).mono ?_
  rintro e w3 ⟨rfl, hb3⟩
  have hR3 := Lib.hid (hRH.out.below RPt.stable hb3)
  have hb3H := Lib.hid (hb2H.out.trans (hb3.mono hb2H.out.size))
  clear hb3
  go_wp2
  refine bodyPost_ret (v := .tuple #[.slice B n cb, .int .i64 0]) (by simp only [results, Try.results18]; go_simp) rfl ?_
  exact ⟨B, cb, rfl, hR3.out, hb3H.out⟩
end Go.Proofs.Ytkppijcjmhkkkaa
/- Walks: a shape scaled, scaled back, moved home. -/

namespace Go.Proofs.Ytkppijcjmhkkkaa
open Go.RowKit
attribute [local go_sem] BelowBy.cell BelowBy.cell_drew stillUpon givesUpon

/-- an own row of points in the making -/
structure RowPt (w : World) (base : Nat) (v : Value) (N : Nat) (L : List Pt) : Prop where
  own : w.ownsRow base 49 2 v N (ptCells L)
  len : L.length = N
theorem RowPt.below {w w' : World} {base N : Nat} {v : Value} {L : List Pt} (h : RowPt w base v N L) (hb : Below w.heap.size w w') : RowPt w' base v N L := ⟨ownsRow_below h.own hb, h.len⟩
theorem RowPt.snoc {w : World} {base N : Nat} {v : Value} {L : List Pt} {x y : Int} (hl : L.length = N) (h : w.ownsRow base 49 2 v (N + 1) (ptCells L ++ [.int .i64 x, .int .i64 y])) : RowPt w base v (N + 1) (L ++ [⟨x, y⟩]) :=
  ⟨by rw [ptCells_snoc]; exact h, by rw [List.length_append, hl]; rfl⟩
theorem colP_succ (k : Nat) (p : Pt) (i m : Nat) : colP k p i (m + 1) = colP k p i m ++ [⟨(k : Int) * p.x + (i : Int), (k : Int) * p.y + (m : Int)⟩] := by simp [colP, List.range_succ]
theorem blkS_succ (k : Nat) (p : Pt) (m : Nat) : blkS k p (m + 1) = blkS k p m ++ colP k p m k := flatMap_succ _ _
theorem scalN_succ {k : Nat} {ps : List Pt} {j : Nat} {p : Pt} (h : ps[j]? = some p) : scalN k ps (j + 1) = scalN k ps j ++ blkS k p k := by
  unfold scalN; rw [flatMap_succ, ptAt_of h]
set_option maxRecDepth 100000 in
set_option maxHeartbeats 4000000 in
theorem scaled_any {A : Option Addr} {n c k : Nat} {ps : List Pt} {w : World} (h : RdSl 2 RPt w A n ps) (hr : ∀ p ∈ ps, (-60 ≤ p.x ∧ p.x ≤ 60) ∧ (-60 ≤ p.y ∧ p.y ≤ 60)) (hn : n ≤ 1000) (h1 : 1 ≤ n) (hk : 1 ≤ k ∧ k ≤ 3) :
    Calls Try.prog 25 #[.slice A n c, .int .i64 (k : Int)] w (OwnPts w (scS k ps)) := by
  obtain ⟨i0, hi, hz0, hz1, hz2⟩ := info_parts infoPtQ
  have hH := Lib.hid h
  have hl := Lib.hid h.len
  have hrH := Lib.hid hr
  clear h hr
  go_enter Try.func25, Try.ntmps25
  go_wp2
  go_loopg [12, 5] n (fun g i v wr => ∃ (m N : Nat), m + g = n ∧ N ≤ 100 * m ∧ i = .int .i64 (m : Int) ∧ Hid (RowPt wr w.heap.size v N (scalN k ps m)) ∧ Hid (Below w.heap.size w wr))
  case atStart => exact ⟨0, 0, by omega, by omega, rfl, Lib.hid ⟨World.ownsRow_nil _ _ _ _, rfl⟩, Lib.hid (bl_refl _)⟩
  case round =>
    obtain ⟨m, N, hm, hN, rfl, hO, hbw⟩ := hrel
    have hszl := hbw.out.size
    obtain ⟨A1, c1, rfl⟩ := ownsRow_form hO.out.own
    by_cases hmn : m < n
    · have hmI : (m : Int) < (n : Int) := by omega
      have hAw := hH.out.below RPt.stable hbw.out
      obtain ⟨bb, ob, rfl, hbb, hbc⟩ := hAw.ptr (by omega)
      obtain ⟨e, he⟩ := hAw.get hmn
      obtain ⟨e0, e1⟩ := hbc m e he
      have heH := Lib.hid he
      have her := hrH.out e (List.mem_of_getElem? he)
      clear hbc he hAw
      obtain ⟨b7, hb7⟩ : ∃ b, wr.heap.size = b := ⟨_, rfl⟩
      have hal : Below wr.heap.size wr (wr.alloc (Obj.cells #[.int .i64 e.x, .int .i64 e.y] 49)) := bl_al (bl_refl _) _
      have bP0 : Hid (Bx (wr.alloc (Obj.cells #[.int .i64 e.x, .int .i64 e.y] 49)) b7 [.int .i64 e.x, .int .i64 e.y]) := Lib.hid (by rw [← hb7]; exact Bx.made wr [.int .i64 e.x, .int .i64 e.y] _)
      have hO0 := Lib.hid (hO.out.below hal)
      have hne0 : Hid ((Value.slice A1 N c1).ownBlock ≠ some b7) := Lib.hid (fun e => by have := (hO.out.own.lt _ e).2; omega)
      have hbw0 := Lib.hid (hbw.out.trans (hal.mono hszl))
      have hbl : w.heap.size ≤ b7 := by omega
      clear hal hO hbw hszl
      go_wp2_with fail
      go_loopg [17, 5] k (fun g i v wr => ∃ (j M : Nat) (A1 : Option Addr) (c1 : Nat), j + g = k ∧ M ≤ N + 10 * j ∧ i = .int .i64 (j : Int) ∧ v = .slice A1 M c1 ∧ Hid (RowPt wr w.heap.size (.slice A1 M c1) M (scalN k ps m ++ blkS k e j)) ∧ Hid (Below w.heap.size w wr) ∧ Hid (Bx wr b7 [.int .i64 e.x, .int .i64 e.y]) ∧ Hid ((Value.slice A1 M c1).ownBlock ≠ some b7))
      case atStart => exact ⟨0, N, A1, c1, by omega, by omega, rfl, rfl, Lib.hid (by rw [show blkS k e 0 = [] from rfl, List.append_nil]; exact hO0.out), hbw0, bP0, hne0⟩
      case round =>
        clear hO0 hbw0 bP0 hne0
        obtain ⟨j, M, A1, c1, hj, hM, rfl, rfl, hO, hbw, bP, hne⟩ := hrel
        by_cases hjk : j < k
        · have hjI : (j : Int) < (k : Int) := by omega
          go_wp2_with fail
          go_loopg [21, 5] k (fun g i v wr => ∃ (q R : Nat) (A1 : Option Addr) (c1 : Nat), q + g = k ∧ R ≤ M + q ∧ i = .int .i64 (q : Int) ∧ v = .slice A1 R c1 ∧ Hid (RowPt wr w.heap.size (.slice A1 R c1) R (scalN k ps m ++ blkS k e j ++ colP k e j q)) ∧ Hid (Below w.heap.size w wr) ∧ Hid (Bx wr b7 [.int .i64 e.x, .int .i64 e.y]) ∧ Hid ((Value.slice A1 R c1).ownBlock ≠ some b7))
          case atStart => exact ⟨0, M, A1, c1, by omega, by omega, rfl, rfl, Lib.hid (by rw [show colP k e j 0 = [] from rfl, List.append_nil]; exact hO.out), hbw, bP, hne⟩
          case round =>
            clear hO hbw bP hne
            obtain ⟨q, R, A1, c1, hq, hR, rfl, rfl, hO, hbw, bP, hne⟩ := hrel
            by_cases hqk : q < k
            · have hqI : (q : Int) < (k : Int) := by omega
              have x0 := bP.out.cell 0 _ rfl
              have x1 := bP.out.cell 1 _ rfl
              have lx := bP.out.lt
              have hszl := hbw.out.size
              obtain ⟨X, hX⟩ : ∃ X : Int, (k : Int) * e.x + (j : Int) = X := ⟨_, rfl⟩
              obtain ⟨Y, hY⟩ : ∃ Y : Int, (k : Int) * e.y + (q : Int) = Y := ⟨_, rfl⟩
              have hb : (-1000 ≤ (k : Int) * e.x ∧ (k : Int) * e.x ≤ 1000) ∧ (-1000 ≤ (k : Int) * e.y ∧ (k : Int) * e.y ≤ 1000) := by rcases k123 hk with rfl | rfl | rfl <;> omega
              have w1 : IntKind.i64.wrap ((k : Int) * e.x) = (k : Int) * e.x := wrapFs (by omega) (by omega)
              have w2 : IntKind.i64.wrap ((k : Int) * e.y) = (k : Int) * e.y := wrapFs (by omega) (by omega)
              have w3 : IntKind.i64.wrap ((k : Int) * e.x + (j : Int)) = X := by rw [hX]; exact wrapFs (by omega) (by omega)
              have w4 : IntKind.i64.wrap ((k : Int) * e.y + (q : Int)) = Y := by rw [hY]; exact wrapFs (by omega) (by omega)
              have hal : Below wr.heap.size wr (wr.alloc (Obj.cells #[.int .i64 X, .int .i64 Y] 49)) := bl_al (bl_refl _) _
              have hO1 := Lib.hid (hO.out.below hal)
              have halH := Lib.hid hal
              have hXH := Lib.hid hX
              have hYH := Lib.hid hY
              clear hal hb hX hY
              go_wp2_with (at_builtin; go_loud (refine wpList_append_own_at _ rfl _ _ 24 rfl w.heap.size 49 i0 (.agg #[.int .i64 0, .int .i64 0]) 2 16 Try.underlying24 hi hz0 hz1 hz2 rfl (by decide) (.slice A1 R c1) R (ptCells (scalN k ps m ++ blkS k e j ++ colP k e j q)) rfl hO1.out.own ⟨wr.heap.size, 0, none⟩ 1 1 [.int .i64 X, .int .i64 Y] rfl rfl (cell_pt2 _ _ _ _) (fun x hx => by simp at hx; rcases hx with rfl | rfl <;> rfl) (by unfold maxLen; omega) (by omega) (by simp; omega) ?_; intro v9 w9 hown9 hgrow9 hat9 hat9b; obtain ⟨A9, c9, rfl⟩ := ownsRow_form hown9; have hat : (Value.slice A9 (R + 1) c9).ownBlock = (Value.slice A1 R c1).ownBlock ∨ (Value.slice A9 (R + 1) c9).ownBlock = some (wr.alloc (Obj.cells #[.int .i64 X, .int .i64 Y] 49)).heap.size := (by first | exact hat9 | exact hat9b); have hs9 := halH.out.size; have hne9 := Lib.hid (show (Value.slice A9 (R + 1) c9).ownBlock ≠ some b7 from fun e => (by
                rcases hat with h2 | h2
                · exact hne.out (h2.symm.trans e)
                · rw [h2] at e; injection e with e; omega)); have bP9 := Lib.hid ((bP.out.below halH.out).grown hgrow9 hne.out); have bw9 := Lib.hid ((hbw.out.trans (halH.out.mono hszl)).grown hgrow9 (by omega) (fun g e => (hO1.out.own.lt g e).1)); have hO9 := Lib.hid (RowPt.snoc hO1.out.len hown9); clear hown9 hgrow9 hat9 hat9b hat hs9))
              go_roundg (k - (q + 1))
              case measure => omega
              case rel => exact ⟨q + 1, R + 1, A9, c9, by omega, by omega, by go_num, rfl, Lib.hid (by rw [colP_succ, ← List.append_assoc, hXH.out, hYH.out]; exact hO9.out), bw9, bP9, hne9⟩
            · obtain rfl : q = k := by omega
              have hqI : ¬ (q : Int) < (q : Int) := by omega
              go_wp2
              go_roundg (q - (j + 1))
              case measure => omega
              case rel => exact ⟨j + 1, R, A1, c1, by omega, by omega, by go_num, rfl, Lib.hid (by rw [blkS_succ, ← List.append_assoc]; exact hO.out), hbw, bP, hne⟩
        · obtain rfl : j = k := by omega
          have hjI : ¬ (j : Int) < (j : Int) := by omega
          go_wp2
          go_roundg (n - (m + 1))
          case measure => omega
          case rel => exact ⟨m + 1, M, by omega, by omega, by go_num, Lib.hid (by rw [scalN_succ heH.out]; exact hO.out), hbw⟩
    · obtain rfl : m = n := by omega
      have hmI : ¬ (m : Int) < (m : Int) := by omega
      have hN0 : Hid (N = m * (k * k)) := Lib.hid (by have := hO.out.len; rw [scalN_len] at this; exact this.symm)
      have hL := Lib.hid (show scalN k ps m = scalP k ps by unfold scalP; rw [hl.out])
      have hpos : 0 < N := by rw [hN0.out]; exact Nat.mul_pos (by omega) (Nat.mul_pos (by omega) (by omega))
      have hOw := hO.out.own
      rw [hL.out] at hOw
      have hlen := Lib.hid (show (scalP k ps).length = N by rw [← hL.out]; exact hO.out.len)
      have hOwH := Lib.hid hOw
      clear hOw hO hN0 hL
      go_wp2_with fail
      refine (sortedShape_any w.heap.size _ (scalP k ps) _ (by rw [hlen.out]; exact hOwH.out) (by rw [hlen.out]; omega) (fun h0 => by rw [hlen.out] at h0; omega)).mono ?_
      rintro e w2 ⟨v, rfl, hO2, hb2⟩
      have hO2H := Lib.hid (ownsRow_baseQ hO2 hszl)
      have hb2H := Lib.hid (hbw.out.trans (hb2.mono hszl))
      clear hO2 hb2
      go_wp2
      go_ret
      exact ⟨v, rfl, hO2H.out, hb2H.out⟩
theorem own_rd {w : World} {base N : Nat} {v : Value} {L : List Pt} (h : w.ownsRow base 49 2 v L.length (ptCells L)) (hl : L.length = N) : ∃ A c, v = .slice A N c ∧ RdSl 2 RPt w A N L := by
  subst hl
  exact rdPt_of_row h
theorem scaled_at {A : Option Addr} {n c k N : Nat} {ps L : List Pt} {w : World} (h : RdSl 2 RPt w A n ps) (h3 : S4 ps k) (h1 : 1 ≤ n) (hL : scS k ps = L) (hN : L.length = N) :
    Calls Try.prog 25 #[.slice A n c, .int .i64 (k : Int)] w (PtsN w N L) := by
  have hl := h.len
  have hn := h3.n
  refine (scaled_any h (fun p hp => by have := h3.s.rng p hp; omega) (by omega) h1 h3.k).mono ?_
  rintro e w' ⟨v, rfl, hO, hb⟩
  have hO' := hO
  rw [hL] at hO'
  obtain ⟨B, cb, rfl, hR⟩ := own_rd hO' hN
  exact ⟨B, cb, rfl, hR, hb⟩
theorem shapeCodeB_at {A : Option Addr} {n c : Nat} {ps : List Pt} {w : World} (h : RdSl 2 RPt w A n ps) (hn : n ≤ 1073741824) (hr : shapeB ps = true) :
    Calls Try.prog 22 #[.slice A n c, .bool true] w fun e w' => e = .returned (.int .i64 0) ∧ Below w.heap.size w w' := shapeCode_at h hn hr
set_option maxRecDepth 100000 in
set_option maxHeartbeats 2000000 in
theorem ScaleShape_any {A : Option Addr} {n c k N : Nat} {ps L : List Pt} {w : World} (h : RdSl 2 RPt w A n ps) (h3 : S4 ps k) (h1 : 1 ≤ n) (hL : scS k ps = L) (hN : L.length = N) :
    Calls Try.prog 8 #[.slice A n c, .int .i64 (k : Int)] w fun e w' => ∃ B c', e = .returned (.tuple #[.slice B N c', .int .i64 0]) ∧ RdSl 2 RPt w' B N L ∧ Below w.heap.size w w' := by
  have hl := h.len
  have hn10 : n ≤ 25 := by have := h3.n; omega
  have hk := h3.k
  have hsh := Lib.hid (h3.s.shape (by omega) (by omega) (by omega) : shapeB ps = true)
  have hNn := h3.len
  rw [hL, hN, hl] at hNn
  have hsL := Lib.hid (show shapeB L = true by rw [← hL]; exact h3.shape (by omega))
  have hN9 : N ≤ 225 := by
    have h9 := h3.kk
    have : n * (k * k) ≤ 25 * 9 := Nat.mul_le_mul (by omega) h9
    omega
  have hnk : n * k ≤ 100 := Nat.le_trans (Nat.mul_le_mul (show n ≤ 25 by omega) (show k ≤ 3 by omega)) (by decide)
  obtain ⟨m, hm⟩ : ∃ m, n * k = m := ⟨_, rfl⟩
  have hmk : m * k = N := by rw [← hm, hNn, Nat.mul_assoc]
  have e1 : (n : Int) * (k : Int) = (m : Int) := by rw [← hm, Int.natCast_mul]
  have e2 : (m : Int) * (k : Int) = (N : Int) := by rw [← hmk, Int.natCast_mul]
  have w1 : IntKind.i64.wrap ((n : Int) * (k : Int)) = (m : Int) := by rw [e1]; exact wrapFs (by omega) (by omega)
  have w2 : IntKind.i64.wrap ((m : Int) * (k : Int)) = (N : Int) := by rw [e2]; exact wrapFs (by omega) (by omega)
  have hNI : ¬ (500 : Int) < (N : Int) := by omega
  have hB : Hid (inB (k : Int) 1 60 = true) := Lib.hid (inB_true.2 (by omega))
  have hH := Lib.hid h
  have h3H := Lib.hid h3
  have hLH := Lib.hid hL
  have hNH := Lib.hid hN
  clear h hl hL hN hNn hm hmk e1 e2 h3
  go_enter Try.func8, Try.ntmps8
  go_wp2_with (go_at_call 23; refine (within_at hB.out).mono ?_; rintro e _ ⟨rfl, rfl⟩)
  refine (shapeCodeB_at hH.out (by omega) hsh.out).mono ?_
  rintro e w1 ⟨rfl, hb1⟩
  have hb1H := Lib.hid hb1
  have hH1 := Lib.hid (hH.out.below RPt.stable hb1)
  clear hb1
  go_wp2_with fail
  refine (scaled_at hH1.out h3H.out h1 hLH.out hNH.out).mono ?_
  rintro e w2 ⟨B, cb, rfl, hR, hb2⟩
  have hRH := Lib.hid hR
  have hb2H := Lib.hid (hb1H.out.trans (hb2.mono hb1H.out.size))
  clear hR hb2
  go_wp2_with fail
  refine (validated_any hRH.out (by omega) hsL.out).mono ?_
  rintro e w3 ⟨rfl, hb3⟩
  have hR3 := Lib.hid (hRH.out.below RPt.stable hb3)
  have hb3H := Lib.hid (hb2H.out.trans (hb3.mono hb2H.out.size))
  clear hb3
  go_wp2
  refine bodyPost_ret (v := .tuple #[.slice B N cb, .int .i64 0]) (by simp only [results, Try.results8]; go_simp) rfl ?_
  exact ⟨B, cb, rfl, hR3.out, hb3H.out⟩
end Go.Proofs.Ytkppijcjmhkkkaa
