import Derived.Test.YthieodccakphiaaGreatAt2
import Derived.Test.YthieodccakphiaaGreatKW
import Derived.Test.YthieodccakphiaaGreatKN
import Derived.Test.YthieodccakphiaaGreatN1
import Derived.Test.YthieodccakphiaaGreatW20a
import Derived.Test.YthieodccakphiaaGreatKI
import Derived.Test.YthieodccakphiaaGreatW11
import Derived.Test.YthieodccakphiaaGreatKH
import Derived.Test.YthieodccakphiaaGreatOrdApp
import Derived.Test.YthieodccakphiaaGreatHTo
set_option linter.unusedSimpArgs false
set_option linter.unusedVariables false
/- Plain: the place of a tile put in; the answer of Attach. -/



namespace Go.Proofs.YthieodccakphiaaGreat
open Go.RowKit Go.Shelf
theorem ins_upto {gs : List Gl} {ts : List Ti} {ys : List Pl} (hV : Valid gs ts ys) (x y : Int) : ∀ n, n ≤ ys.length → ∃ i, i ≤ n ∧ (∀ (k : Nat) (d : Pl), k < i → ys[k]? = some d → lessPt d.x d.y x y = true) ∧ (∀ (k : Nat) (d : Pl), i ≤ k → k < n → ys[k]? = some d → lessPt d.x d.y x y = false)
  | 0, _ => ⟨0, Nat.le_refl _, fun k d h => by omega, fun k d _ h => by omega⟩
  | n + 1, hn => by
    obtain ⟨i, hi, h1, h2⟩ := ins_upto hV x y n (by omega)
    obtain ⟨e, he⟩ : ∃ e, ys[n]? = some e := ⟨_, List.getElem?_eq_getElem (by omega)⟩
    cases hl : lessPt e.x e.y x y
    · refine ⟨i, by omega, h1, fun k d hk hn1 hd => ?_⟩
      rcases Nat.lt_succ_iff_lt_or_eq.1 hn1 with h | rfl
      · exact h2 k d hk h hd
      · rw [he] at hd; obtain rfl := Option.some.inj hd; exact hl
    · refine ⟨n + 1, Nat.le_refl _, fun k d hk hd => ?_, fun k d hk hn1 => by omega⟩
      rcases Nat.lt_succ_iff_lt_or_eq.1 hk with h | rfl
      · exact lessPt_trans (hV.sorted k n d e h hd he) hl
      · rw [he] at hd; obtain rfl := Option.some.inj hd; exact hl
theorem ins_exists {gs : List Gl} {ts : List Ti} {ys : List Pl} (hV : Valid gs ts ys) (x y : Int) : ∃ i, InsAt ys x y i := by
  obtain ⟨i, h0, h1, h2⟩ := ins_upto hV x y ys.length (Nat.le_refl _)
  exact ⟨i, h0, h1, fun k d hk hd => h2 k d hk (lt_of_get hd) hd⟩
theorem InsAt.not_lt {ys : List Pl} {x y : Int} {i j : Nat} (h : InsAt ys x y i) (g : InsAt ys x y j) (l : i < j) : False := by
  obtain ⟨d, hd⟩ : ∃ d, ys[i]? = some d := ⟨_, List.getElem?_eq_getElem (by have := g.1; omega)⟩
  have a := g.2.1 i d l hd
  have b := h.2.2 i d (Nat.le_refl _) hd
  rw [a] at b; cases b
theorem InsAt.uniq {ys : List Pl} {x y : Int} {i j : Nat} (h : InsAt ys x y i) (g : InsAt ys x y j) : i = j := by
  rcases Nat.lt_trichotomy i j with l | l | l
  · exact (h.not_lt g l).elim
  · exact l
  · exact (g.not_lt h l).elim
theorem at_placeA {gs : List Gl} {ts : List Ti} {ys : List Pl} (hV : Valid gs ts ys) (x y : Int) : atI ys x y < 0 ↔ placeI ys x y < 0 := by
  rcases atI_cases hV x y with ⟨h1, h2⟩ | ⟨k, t, e, h1, _, _, _, h2⟩
  · rw [h1, h2]
  · rw [h1, h2]; omega
theorem InsAt.lo {ys : List Pl} {x y : Int} {i : Nat} (h : InsAt ys x y i) : ∀ (k : Nat) (d : Pl), k < i → ys[k]? = some d → lessPt x y d.x d.y = false := fun k d hk hd => by
  have h1 := h.2.1 k d hk hd
  cases hh : lessPt x y d.x d.y with
  | false => rfl
  | true => rw [lessPt_iff] at h1 hh; omega
theorem InsAt.hi {gs : List Gl} {ts : List Ti} {ys : List Pl} {x y : Int} {i : Nat} (h : InsAt ys x y i) (hV : Valid gs ts ys) (hfree : atI ys x y < 0) : ∀ d : Pl, ys[i]? = some d → lessPt x y d.x d.y = true := fun d hd => by
  have h1 := h.2.2 i d (Nat.le_refl _) hd
  have h2 : ¬ (d.x = x ∧ d.y = y) := fun hxy => by
    have := IsPlace.eq hV (place_found hd hxy.1 hxy.2)
    rw [at_placeA hV, ← this] at hfree; omega
  cases hh : lessPt x y d.x d.y with
  | true => rfl
  | false =>
    exfalso
    have a : ¬ lessPt d.x d.y x y = true := by rw [h1]; decide
    have b : ¬ lessPt x y d.x d.y = true := by rw [hh]; decide
    rw [lessPt_iff] at a b
    exact h2 ⟨by omega, by omega⟩
/-- the assembly with a tile put in -/
noncomputable def insP (ys : List Pl) (x y t : Int) : List Pl := by
  classical
  exact if h : ∃ i, InsAt ys x y i then insL ys h.choose ⟨x, y, t⟩ else []
theorem insP_eq {ys : List Pl} {x y t : Int} {i : Nat} (h : InsAt ys x y i) : insL ys i ⟨x, y, t⟩ = insP ys x y t := by
  have h' : ∃ i, InsAt ys x y i := ⟨i, h⟩
  unfold insP
  rw [dif_pos h', h.uniq h'.choose_spec]
/-- the tile can be put at the point -/
noncomputable def canB (gs : List Gl) (ts : List Ti) (ys : List Pl) (te x y t : Int) : Bool := inB t 0 ((ts.length : Int) - 1) && fitB gs ts ys te x y t.toNat
/-- what Attach answers -/
noncomputable def attR (gs : List Gl) (ts : List Ti) (xs : List Pl) (te : Int) (ys : List Pl) (x y t : Int) : List Pl × Int :=
  if growB gs ts xs te ys = true then (if canB gs ts ys te x y t = true then (if 500 ≤ ys.length then ([], 4) else (insP ys x y t, 0)) else ([], 2)) else ([], 1)
section
variable {gs : List Gl} {ts : List Ti} {xs ys : List Pl} {te x y t : Int}
theorem attR_no (h : growB gs ts xs te ys = false) : (([] : List Pl), (1 : Int)) = attR gs ts xs te ys x y t := by unfold attR; rw [if_neg (by rw [h]; decide)]
theorem attR_not (h : growB gs ts xs te ys = true) (hc : canB gs ts ys te x y t = false) : (([] : List Pl), (2 : Int)) = attR gs ts xs te ys x y t := by unfold attR; rw [if_pos h, if_neg (by rw [hc]; decide)]
theorem attR_full (h : growB gs ts xs te ys = true) (hc : canB gs ts ys te x y t = true) (hl : 500 ≤ ys.length) : (([] : List Pl), (4 : Int)) = attR gs ts xs te ys x y t := by unfold attR; rw [if_pos h, if_pos hc, if_pos hl]
theorem attR_put (h : growB gs ts xs te ys = true) (hc : canB gs ts ys te x y t = true) (hl : ¬ 500 ≤ ys.length) {i : Nat} (hi : InsAt ys x y i) : (insL ys i ⟨x, y, t⟩, (0 : Int)) = attR gs ts xs te ys x y t := by unfold attR; rw [if_pos h, if_pos hc, if_neg hl, insP_eq hi]
theorem canB_tile (h : inB t 0 ((ts.length : Int) - 1) = false) : canB gs ts ys te x y t = false := by unfold canB; rw [h]; rfl
theorem canB_fit {k : Nat} {b : Bool} (h : inB t 0 ((ts.length : Int) - 1) = true) (hk : t = k) (hb : fitB gs ts ys te x y k = b) : canB gs ts ys te x y t = b := by unfold canB; rw [h, hk]; simpa using hb
theorem inB_nat (h : inB t 0 ((ts.length : Int) - 1) = true) : ∃ k : Nat, t = k ∧ k < ts.length := by
  rw [inB_true] at h
  exact ⟨t.toNat, by omega, by omega⟩
theorem fitB_free {k : Nat} (h : fitB gs ts ys te x y k = true) : atI ys x y < 0 := by
  unfold fitB at h; simp only [Bool.and_eq_true, decide_eq_true_eq] at h; exact h.1.2
theorem canB_free (h : canB gs ts ys te x y t = true) : atI ys x y < 0 := by
  unfold canB at h; simp only [Bool.and_eq_true] at h; exact fitB_free h.2
theorem validPt_bd (h : validPt x y = true) : (-900 ≤ x ∧ x ≤ 900) ∧ (-900 ≤ y ∧ y ≤ 900) := by
  unfold validPt at h; simp only [Bool.and_eq_true, inB_true] at h; omega
end
end Go.Proofs.YthieodccakphiaaGreat
/- Walk: the tiles that can attach at the points next to a point. -/



namespace Go.Proofs.YthieodccakphiaaGreat
open Go.RowKit Go.Shelf
attribute [local go_sem] BelowBy.cell BelowBy.cell_drew stillUpon givesUpon BelowBy.cell_drew2 BelowBy.cell_drew3

/-- one of the first m tiles fits -/
noncomputable def fitU (gs : List Gl) (ts : List Ti) (ys : List Pl) (t x y : Int) : Nat → Bool
  | 0 => false
  | k + 1 => fitU gs ts ys t x y k || fitB gs ts ys t x y k
/-- some tile fits -/
noncomputable def fitA (gs : List Gl) (ts : List Ti) (ys : List Pl) (t x y : Int) : Bool := fitU gs ts ys t x y ts.length
/-- the points next to a point of which F holds are laid in -/
def lookS (F S : Int → Int → Bool) (x y : Int) : Nat → Int → Int → Bool
  | 0 => S
  | d + 1 => fun i j => lookS F S x y d i j || (decide (i = stepX x (d : Nat) ∧ j = stepY y (d : Nat)) && F i j)
theorem lookS_sub {F S : Int → Int → Bool} (h : ∀ i j, S i j = true → F i j = true) (x y : Int) : ∀ d i j, lookS F S x y d i j = true → F i j = true
  | 0, i, j, hh => h i j hh
  | d + 1, i, j, hh => by
    simp only [lookS, Bool.or_eq_true, Bool.and_eq_true] at hh
    rcases hh with hh | hh
    · exact lookS_sub h x y d i j hh
    · exact hh.2
theorem lookS_yes {F S : Int → Int → Bool} {x y : Int} {d : Nat} (h : F (stepX x (d : Nat)) (stepY y (d : Nat)) = true) : (fun i j => lookS F S x y d i j || decide (i = stepX x (d : Nat) ∧ j = stepY y (d : Nat))) = lookS F S x y (d + 1) := by
  funext i j
  simp only [lookS]
  by_cases hij : i = stepX x (d : Nat) ∧ j = stepY y (d : Nat)
  · obtain ⟨rfl, rfl⟩ := hij; rw [h]; simp
  · simp [hij]
theorem lookS_no {F S : Int → Int → Bool} {x y : Int} {d : Nat} (h : F (stepX x (d : Nat)) (stepY y (d : Nat)) = false) : lookS F S x y d = lookS F S x y (d + 1) := by
  funext i j
  simp only [lookS]
  by_cases hij : i = stepX x (d : Nat) ∧ j = stepY y (d : Nat)
  · obtain ⟨rfl, rfl⟩ := hij; rw [h]; simp
  · simp [hij]
set_option maxRecDepth 100000 in
set_option maxHeartbeats 4000000 in
theorem lookAround_any {p tb ob no : Nat} {A : Option Addr} {q ca : Nat} {te : Int} {nt : Nat} {M : Int → Int → Option Int} {S : Int → Int → Bool} {G T : Option Addr} {n cg m ct : Nat} {gs : List Gl} {ts : List Ti} {xs : List Pl} {x y : Int} {w0 w : World} (hG : RdSl 2 RGl w0 G n gs) (hT : RdSl 2 RTi w0 T m ts) (hB : Below w0.heap.size w0 w) (h0 : w0.heap.size ≤ ob) (hC : Crys w p tb ob G n cg T m ct A q ca te nt M) (hM : ∀ i j, W64 i → W64 j → (M i j).getD (-1) = atI xs i j) (hO : OMap w ob no S) (hno : no ≤ 1000000) (hpo : p < ob ∨ ob + 1 ≤ p) (hto : tb < ob ∨ ob + 1 ≤ tb) (hS : ∀ i j, S i j = true → fitA gs ts xs te i j = true) (hV : Valid gs ts xs) (hx : -800 ≤ x ∧ x ≤ 800) (hy : -800 ≤ y ∧ y ≤ 800) :
    Calls Tryz.prog 77 #[.pointer (some ⟨p, 0, none⟩), .agg #[.int .i64 x, .int .i64 y]] w fun e w' => e = .returned (.tuple #[]) ∧ (∃ no' : Nat, no' ≤ no + 4 ∧ OMap w' ob no' (lookS (fitA gs ts xs te) S x y 4)) ∧ Mk ob (ob + 1) w w' := by
  obtain ⟨i0, hi, hz0, hz1, hz2⟩ := info_parts infoI
  have hml : ts.length = m := hT.len
  have hm160 := hV.tl
  have lob := hO.lt
  have hGH := Lib.hid hG
  have hTH := Lib.hid hT
  have hBH := Lib.hid hB
  have hCH := Lib.hid hC
  have hMH := Lib.hid hM
  have hOH := Lib.hid hO
  have hSH := Lib.hid hS
  have lp := hC.lt
  clear hG hT hB hC hM hO hS
  go_enter Tryz.func77, Tryz.ntmps77
  go_wp2
  go_loopg [8] 4 (fun g c wr => ∃ (d no' : Nat), d + g = 4 ∧ c = .int .i64 (d : Int) ∧ no' ≤ no + d ∧ Hid (OMap wr ob no' (lookS (fitA gs ts xs te) S x y d)) ∧ Hid (Mk ob (ob + 1) w wr) ∧ wr.cell? ⟨w.heap.size, 0, none⟩ = some (.int .i64 x) ∧ wr.cell? ⟨w.heap.size, 1, none⟩ = some (.int .i64 y) ∧ w.heap.size < wr.heap.size)
  case atStart => exact ⟨0, no, by omega, rfl, by omega, Lib.hid (hOH.out.below (by exact bel_)), Lib.hid (Mk.of_below (by exact bel_) (by omega)), by go_simp, by go_simp, by simp⟩
  case round =>
    obtain ⟨d, no', hd, rfl, hno', hOw, hmk, x0, x1, hsz⟩ := hrel
    by_cases hd4 : d < 4
    · have hdI : (d : Int) < 4 := by omega
      have hCw := Lib.hid (hCH.out.mkd hmk.out hpo hto)
      have lpw : p < wr.heap.size := by omega
      have lpw' : p ≤ wr.heap.size := by omega
      have e1 := hCw.out.c1
      have e5 := hCw.out.c5
      obtain ⟨sx, hsx⟩ : ∃ sx, stepX x (d : Nat) = sx := ⟨_, rfl⟩
      obtain ⟨sy, hsy⟩ : ∃ sy, stepY y (d : Nat) = sy := ⟨_, rfl⟩
      have hsx1 : -900 ≤ sx ∧ sx ≤ 900 := by rw [← hsx]; unfold stepX; split <;> (try split) <;> omega
      have hsy1 : -900 ≤ sy ∧ sy ≤ 900 := by rw [← hsy]; unfold stepY; split <;> (try split) <;> omega
      have hsxH := Lib.hid hsx
      have hsyH := Lib.hid hsy
      have hBw : Below w0.heap.size w0 wr := hBH.out.trans (hmk.out.below.mono h0)
      have hGw := Lib.hid (hGH.out.below RGl.stable hBw)
      have hTw := Lib.hid (hTH.out.below RTi.stable hBw)
      clear hsx hsy hBw
      go_wp2_with fail
      refine (step_at d rfl hd4 ⟨by omega, by omega⟩ ⟨by omega, by omega⟩ hsxH.out hsyH.out).mono ?_
      rintro e' w1 ⟨rfl, hb1⟩
      have s1 := hb1.size
      have f1 := (hb1.cell (p := ⟨p, 1, none⟩) lpw).trans e1
      have lp1 : p < w1.heap.size := by omega
      have lp1' : p ≤ w1.heap.size := by omega
      have hb1H := Lib.hid hb1
      clear hb1 e1 e5
      go_wp2
      obtain ⟨wq, rfl⟩ : ∃ wq : World, wq = wr := ⟨_, rfl⟩
      go_loopg [21, 6] m (fun g c v wr => ∃ (j N : Nat) (cs : List Value), j + g = m ∧ c = .int .i64 (j : Int) ∧ N ≤ j ∧ Hid (decide (0 < N) = fitU gs ts xs te sx sy j) ∧ Hid (wr.ownsRow (w1.heap.size + 1) 2 1 v N cs) ∧ Hid (Below wq.heap.size wq wr) ∧ wr.cell? ⟨w1.heap.size, 0, none⟩ = some (.int .i64 sx) ∧ wr.cell? ⟨w1.heap.size, 1, none⟩ = some (.int .i64 sy) ∧ w1.heap.size < wr.heap.size)
      case atStart => exact ⟨0, 0, [], by omega, rfl, by omega, Lib.hid rfl, Lib.hid (World.ownsRow_nil _ _ _ _), Lib.hid (bl_al hb1H.out _), by go_simp, by go_simp, by simp⟩
      case round =>
        obtain ⟨j, N, cs, hj, rfl, hNj, hfu, hrow, hbx, q0, q1, hsx⟩ := hrel
        obtain ⟨A1, c1, rfl⟩ := ownsRow_form hrow.out
        have lpx : p < wr.heap.size := by have := hbx.out.size; omega
        have lpx' : p ≤ wr.heap.size := Nat.le_of_lt lpx
        by_cases hjm : j < m
        · cases hfb : fitB gs ts xs te sx sy j
          all_goals
            have hfbH := Lib.hid hfb
            go_wp2_with fail
            refine (fits_any G T n cg m ct gs ts xs sx sy j _ (hGw.out.below RGl.stable hbx.out) (hTw.out.below RTi.stable hbx.out) (hCw.out.below hbx.out) hMH.out hV (by omega) hsx1 hsy1 hfbH.out).mono ?_
            rintro e' w2 ⟨rfl, hb2⟩
            have hB2 := Lib.hid (hbx.out.trans (hb2.mono hbx.out.size))
            have hrow' := Lib.hid (ownsRow_below hrow.out hb2)
            have z0 := (hb2.cell (p := ⟨w1.heap.size, 0, none⟩) hsx).trans q0
            have z1 := (hb2.cell (p := ⟨w1.heap.size, 1, none⟩) hsx).trans q1
            have s2 := hb2.size
            clear hb2 q0 q1
          · have hs := Lib.hid (show decide (0 < N) = fitU gs ts xs te sx sy (j + 1) by simp only [fitU]; rw [← hfu.out, hfb, Bool.or_false])
            clear hfb
            go_wp2
            go_roundg (m - (j + 1))
            case measure => omega
            case rel => exact ⟨j + 1, N, cs, by omega, by go_num, by omega, hs, hrow', hB2, z0, z1, by omega⟩
          · have hs := Lib.hid (show decide (0 < N + 1) = fitU gs ts xs te sx sy (j + 1) by simp only [fitU]; rw [hfb, Bool.or_true]; simp)
            clear hfb
            go_wp2_with (at_builtin; refine wpList_append_own _ rfl _ _ 103 rfl (w1.heap.size + 1) 2 i0 (.int .i64 0) 1 8 Tryz.underlying103 hi hz0 hz1 hz2 rfl (by decide) _ N cs rfl (hrow'.out.alloc _) ⟨w2.heap.size, 0, none⟩ 1 1 [.int .i64 (j : Int)] rfl rfl (by have := cell_one_new w2 (.int .i64 (j : Int)) 2; simpa using this) (fun x hx => by simp at hx; subst hx; rfl) (by unfold maxLen; omega) (by omega) (by simp; omega) ?_; intro v' w3 hown' hgrow _)
            have hfar : Below (w1.heap.size + 1) w2 w3 := ((Below.refl (w1.heap.size + 1) w2).alloc (by omega) _).grown hgrow (by simp; omega) (fun b' hb' => (hrow'.out.lt b' hb').1)
            have hB3 := Lib.hid (hB2.out.trans (hfar.mono (by omega)))
            have u0 := (hfar.cell (p := ⟨w1.heap.size, 0, none⟩) (by simp)).trans z0
            have u1 := (hfar.cell (p := ⟨w1.heap.size, 1, none⟩) (by simp)).trans z1
            have s3 := hfar.size
            have hownH := Lib.hid hown'
            clear hfar z0 z1 hown' hgrow
            go_wp2
            go_roundg (m - (j + 1))
            case measure => omega
            case rel => exact ⟨j + 1, N + 1, _, by omega, by go_num, by omega, hs, hownH, hB3, u0, u1, by omega⟩
        · obtain rfl : j = m := by omega
          have hFA : fitA gs ts xs te sx sy = decide (0 < N) := by unfold fitA; rw [hml, hfu.out]
          have hFAH := Lib.hid hFA
          have hW1 := Lib.hid (show W64 sx from W64.of (by omega))
          have hW2 := Lib.hid (show W64 sy from W64.of (by omega))
          have hOx := Lib.hid (hOw.out.below hbx.out)
          have e5 := (hCw.out.below hbx.out).c5
          have y0 := (hbx.out.cell (p := ⟨w.heap.size, 0, none⟩) hsz).trans x0
          have y1 := (hbx.out.cell (p := ⟨w.heap.size, 1, none⟩) hsz).trans x1
          have hmx := Lib.hid (hmk.out.trans (Mk.of_below (bl_dr hbx.out) (Nat.le_trans (Nat.le_of_lt lob) hmk.out.size)))
          clear hFA x0 x1
          by_cases hN : N = 0
          · subst hN
            have hno0 := Lib.hid (show lookS (fitA gs ts xs te) S x y d sx sy = false by
              cases hh : lookS (fitA gs ts xs te) S x y d sx sy
              · rfl
              · have h9 : fitA gs ts xs te sx sy = true := lookS_sub hSH.out x y d _ _ hh
                rw [hFAH.out] at h9; simp at h9)
            have hnx := Lib.hid (lookS_no (S := S) (x := x) (y := y) (d := d) (F := fitA gs ts xs te) (by rw [hsxH.out, hsyH.out, hFAH.out]; rfl))
            go_wp2
            refine wp_region_ord [(0, .q), (1, .q), (2, .q), (3, .q), (4, .q), (5, .b)] (by kernel_rfl) (by kernel_rfl) ?_
            simp only [pick, List.filterMap_cons, List.filterMap_nil, List.getElem?_toArray, List.getElem?_cons_zero, List.getElem?_cons_succ, Option.map_some]
            repeat (first | ((with_reducible refine wpD_p (fun K hK => ?_)); go_simp; refine hK _ ?_; clear hK K) | ((with_reducible refine wpD_q (fun K hK => ?_)); go_simp; (first | refine hK _ ?_ | (go_bits; refine hK _ ?_) | (go_bits; go_simp; refine hK _ ?_)); clear hK K))
            refine wpD_del_omap rfl _ _ rfl ob no' _ (by go_simp) (hOx.out.below (bl_dr (bl_refl _))) sx sy hW1.out hW2.out hno0.out (by go_simp) ?_
            intro w3 hO3 hm3
            with_reducible refine wpD_nil ?_
            have v0 := (World.cell?_of_block (a := ⟨w.heap.size, 0, none⟩) (hm3.keep w.heap.size (by omega) (by simp; omega))).trans (show _ = some (Value.int .i64 x) by go_simp)
            have v1 := (World.cell?_of_block (a := ⟨w.heap.size, 1, none⟩) (hm3.keep w.heap.size (by omega) (by simp; omega))).trans (show _ = some (Value.int .i64 y) by go_simp)
            have s3 := hm3.size
            have hO3H := Lib.hid hO3
            have hm3H := Lib.hid (hmx.out.trans hm3)
            clear hO3 hm3
            go_wp2
            go_roundg (4 - (d + 1))
            case measure => omega
            case rel => exact ⟨d + 1, no', by omega, by go_num, by omega, Lib.hid (by rw [← hnx.out]; exact hO3H.out), hm3H, v0, v1, by simp at s3; omega⟩
          · have hNI : (0 : Int) < (N : Int) := by omega
            have hN0 : 0 < N := by omega
            have hnx := Lib.hid (lookS_yes (S := S) (x := x) (y := y) (d := d) (F := fitA gs ts xs te) (by rw [hsxH.out, hsyH.out, hFAH.out]; simpa using hN0))
            go_wp2
            refine wp_region_ord [(0, .q), (1, .q), (2, .q), (3, .q), (4, .q), (5, .q), (6, .b)] (by kernel_rfl) (by kernel_rfl) ?_
            simp only [pick, List.filterMap_cons, List.filterMap_nil, List.getElem?_toArray, List.getElem?_cons_zero, List.getElem?_cons_succ, Option.map_some]
            repeat (first | ((with_reducible refine wpD_p (fun K hK => ?_)); go_simp; refine hK _ ?_; clear hK K) | ((with_reducible refine wpD_q (fun K hK => ?_)); go_simp; (first | refine hK _ ?_ | (go_bits; refine hK _ ?_) | (go_bits; go_simp; refine hK _ ?_)); clear hK K))
            refine wpD_put_omap rfl _ _ _ rfl ob no' _ (by go_simp) (hOx.out.below (bl_dr (bl_refl _))) sx sy hW1.out hW2.out A1 N c1 (by omega) (by omega) (by unfold maxLen; omega) (by go_simp) (by go_simp) ?_
            intro w3 hO3 hm3
            with_reducible refine wpD_nil ?_
            have v0 := (World.cell?_of_block (a := ⟨w.heap.size, 0, none⟩) (hm3.keep w.heap.size (by omega) (by simp; omega))).trans (show _ = some (Value.int .i64 x) by go_simp)
            have v1 := (World.cell?_of_block (a := ⟨w.heap.size, 1, none⟩) (hm3.keep w.heap.size (by omega) (by simp; omega))).trans (show _ = some (Value.int .i64 y) by go_simp)
            have s3 := hm3.size
            have hO3H := Lib.hid hO3
            have hm3H := Lib.hid (hmx.out.trans hm3)
            clear hO3 hm3
            go_wp2
            go_roundg (4 - (d + 1))
            case measure => omega
            case rel => exact ⟨d + 1, no' + 1, by omega, by go_num, by omega, Lib.hid (by rw [← hnx.out, hsxH.out, hsyH.out]; exact hO3H.out), hm3H, v0, v1, by simp at s3; omega⟩
    · obtain rfl : d = 4 := by omega
      go_wp2
      go_end0
      exact ⟨rfl, ⟨no', by omega, hOw.out⟩, hmk.out⟩
end Go.Proofs.YthieodccakphiaaGreat
/- Walk: a new crystal of an assembly. -/

namespace Go.Proofs.YthieodccakphiaaGreat
open Go.RowKit Go.Shelf
attribute [local go_sem] BelowBy.cell BelowBy.cell_drew stillUpon givesUpon BelowBy.cell_drew2 BelowBy.cell_drew3

/-- the first tiles of an assembly, by their points -/
def tilesM (ys : List Pl) : Nat → Int → Int → Option Int
  | 0 => fun _ _ => none
  | k + 1 => fun i j => match ys[k]? with
    | some e => if i = e.x ∧ j = e.y then some e.t else tilesM ys k i j
    | none => tilesM ys k i j
theorem tilesM_succ {ys : List Pl} {k : Nat} {e : Pl} (h : ys[k]? = some e) : tilesM ys (k + 1) = fun i j => if i = e.x ∧ j = e.y then some e.t else tilesM ys k i j := by
  funext i j; simp only [tilesM, h]
theorem tilesM_none {ys : List Pl} {x y : Int} (h : ∀ (k : Nat) (e : Pl), ys[k]? = some e → ¬ (e.x = x ∧ e.y = y)) : ∀ k, tilesM ys k x y = none
  | 0 => rfl
  | k + 1 => by
    simp only [tilesM]
    split
    · rename_i e he
      rw [if_neg (fun hh => h k e he ⟨hh.1.symm, hh.2.symm⟩)]; exact tilesM_none h k
    · exact tilesM_none h k
theorem tilesM_some {gs : List Gl} {ts : List Ti} {ys : List Pl} (hV : Valid gs ts ys) {x y : Int} {i : Nat} {e : Pl} (he : ys[i]? = some e) (hx : e.x = x) (hy : e.y = y) : ∀ k, i < k → tilesM ys k x y = some e.t
  | 0, h => by omega
  | k + 1, h => by
    simp only [tilesM]
    rcases Nat.lt_succ_iff_lt_or_eq.1 h with h | rfl
    · split
      · rename_i d hd
        have := (lessPt_iff _ _ _ _).1 (hV.sorted i k e d h he hd)
        rw [if_neg (fun hh => by omega)]; exact tilesM_some hV he hx hy k h
      · exact tilesM_some hV he hx hy k h
    · rw [he]; simp [hx, hy]
theorem tilesM_at {gs : List Gl} {ts : List Ti} {ys : List Pl} (hV : Valid gs ts ys) (x y : Int) : (tilesM ys ys.length x y).getD (-1) = atI ys x y := by
  by_cases h : ∃ (i : Nat) (e : Pl), ys[i]? = some e ∧ e.x = x ∧ e.y = y
  · obtain ⟨i, e, he, hx, hy⟩ := h
    rw [tilesM_some hV he hx hy _ (lt_of_get he), atI_some (IsPlace.eq hV (place_found he hx hy)).symm he]; rfl
  · have h' : ∀ (k : Nat) (e : Pl), ys[k]? = some e → ¬ (e.x = x ∧ e.y = y) := fun k e he hh => h ⟨k, e, he, hh⟩
    rw [tilesM_none h', atI_none (IsPlace.eq hV (Or.inl ⟨rfl, h'⟩)).symm]; rfl
/-- the points next to the first tiles of which F holds -/
def nearS (F : Int → Int → Bool) (ys : List Pl) : Nat → Int → Int → Bool
  | 0 => fun _ _ => false
  | k + 1 => match ys[k]? with
    | some e => lookS F (nearS F ys k) e.x e.y 4
    | none => nearS F ys k
theorem nearS_succ {F : Int → Int → Bool} {ys : List Pl} {k : Nat} {e : Pl} (h : ys[k]? = some e) : nearS F ys (k + 1) = lookS F (nearS F ys k) e.x e.y 4 := by
  simp only [nearS, h]
theorem nearS_sub {F : Int → Int → Bool} {ys : List Pl} : ∀ k i j, nearS F ys k i j = true → F i j = true
  | 0, i, j, h => by cases h
  | k + 1, i, j, h => by
    cases hk : ys[k]? with
    | none => simp only [nearS, hk] at h; exact nearS_sub k i j h
    | some e => simp only [nearS, hk] at h; exact lookS_sub (nearS_sub k) _ _ _ i j h
theorem lookS_iff {F S : Int → Int → Bool} {x y i j : Int} : ∀ d, lookS F S x y d i j = true ↔ S i j = true ∨ (F i j = true ∧ ∃ d' : Nat, d' < d ∧ i = stepX x d' ∧ j = stepY y d')
  | 0 => by simp [lookS]
  | d + 1 => by
    simp only [lookS, Bool.or_eq_true, Bool.and_eq_true, decide_eq_true_eq, lookS_iff d]
    constructor
    · rintro ((h | ⟨h, d', h1, h2⟩) | ⟨h1, h2⟩)
      · exact Or.inl h
      · exact Or.inr ⟨h, d', by omega, h2⟩
      · exact Or.inr ⟨h2, d, by omega, h1⟩
    · rintro (h | ⟨h, d', h1, h2⟩)
      · exact Or.inl (Or.inl h)
      · rcases Nat.lt_succ_iff_lt_or_eq.1 h1 with h1 | rfl
        · exact Or.inl (Or.inr ⟨h, d', h1, h2⟩)
        · exact Or.inr ⟨h2, h⟩
theorem nearS_iff {F : Int → Int → Bool} {ys : List Pl} {i j : Int} : ∀ k, nearS F ys k i j = true ↔ F i j = true ∧ ∃ (a : Nat) (e : Pl) (d : Nat), a < k ∧ ys[a]? = some e ∧ d < 4 ∧ i = stepX e.x d ∧ j = stepY e.y d
  | 0 => by simp [nearS]
  | k + 1 => by
    cases hk : ys[k]? with
    | none =>
      simp only [nearS, hk]
      rw [nearS_iff k]
      constructor
      · rintro ⟨h, a, e, d, h1, h2⟩; exact ⟨h, a, e, d, by omega, h2⟩
      · rintro ⟨h, a, e, d, h1, h2, h3⟩
        rcases Nat.lt_succ_iff_lt_or_eq.1 h1 with h1 | rfl
        · exact ⟨h, a, e, d, h1, h2, h3⟩
        · rw [hk] at h2; cases h2
    | some e =>
      simp only [nearS, hk]
      rw [lookS_iff, nearS_iff k]
      constructor
      · rintro (⟨h, a, e, d, h1, h2⟩ | ⟨h, d, h1, h2⟩)
        · exact ⟨h, a, e, d, by omega, h2⟩
        · exact ⟨h, k, e, d, by omega, hk, h1, h2⟩
      · rintro ⟨h, a, e', d, h1, h2, h3⟩
        rcases Nat.lt_succ_iff_lt_or_eq.1 h1 with h1 | rfl
        · exact Or.inl ⟨h, a, e', d, h1, h2, h3⟩
        · rw [hk] at h2; obtain rfl := Option.some.inj h2; exact Or.inr ⟨h, d, h3⟩
theorem Crys.put {w w' : World} {p tb ob : Nat} {G : Option Addr} {n cg : Nat} {T : Option Addr} {m ct : Nat} {A : Option Addr} {q ca : Nat} {t : Int} {nt nt' : Nat} {M M' : Int → Int → Option Int} (h : Crys w p tb ob G n cg T m ct A q ca t nt M) (hm : Mk tb (tb + 1) w w') (hp : tb + 1 ≤ p) (h' : PMap w' tb nt' M') : Crys w' p tb ob G n cg T m ct A q ca t nt' M' := by
  have hk : w'.heap[p]? = w.heap[p]? := hm.keep p hp h.lt
  exact ⟨Nat.lt_of_lt_of_le h.lt hm.size, (World.cell?_of_block (a := ⟨p, 0, none⟩) hk).trans h.c0, (World.cell?_of_block (a := ⟨p, 1, none⟩) hk).trans h.c1, (World.cell?_of_block (a := ⟨p, 2, none⟩) hk).trans h.c2, (World.cell?_of_block (a := ⟨p, 3, none⟩) hk).trans h.c3, (World.cell?_of_block (a := ⟨p, 4, none⟩) hk).trans h.c4, (World.cell?_of_block (a := ⟨p, 5, none⟩) hk).trans h.c5, h'⟩
set_option maxRecDepth 100000 in
set_option maxHeartbeats 4000000 in
theorem newCrystal_any {G T A C : Option Addr} {n cg m ct q ca k cc : Nat} {gs : List Gl} {ts : List Ti} {ys : List Pl} {te : Int} {w : World} (hG : RdSl 2 RGl w G n gs) (hT : RdSl 2 RTi w T m ts) (hA : RdSl 3 RPl w C k ys) (hV : Valid gs ts ys) :
    Calls Tryz.prog 41 #[.agg #[.slice G n cg, .slice T m ct, .slice A q ca, .int .i64 te], .agg #[.slice C k cc]] w fun e w' => ∃ (p tb ob nt no : Nat) (M : Int → Int → Option Int), e = .returned (.pointer (some ⟨p, 0, none⟩)) ∧ Crys w' p tb ob G n cg T m ct A q ca te nt M ∧ (∀ i j, W64 i → W64 j → (M i j).getD (-1) = atI ys i j) ∧ OMap w' ob no (nearS (fitA gs ts ys te) ys ys.length) ∧ no ≤ 1000000 ∧ Below w.heap.size w w' := by
  have hkl := hA.len
  have hk5 : k ≤ 500 := by rw [← hkl]; exact hV.len
  have hGH := Lib.hid hG
  have hTH := Lib.hid hT
  have hAH := Lib.hid hA
  clear hG hT hA
  have hmm := @run_makeMap Tryz.prog
  go_enter Tryz.func41, Tryz.ntmps41
  go_wp2
  simp only [Nat.add_assoc, Nat.reduceAdd]
  go_loopg [18] k (fun g c wr => ∃ (j : Nat), j + g = k ∧ c = .int .i64 (j : Int) ∧ Hid (Crys wr (w.heap.size + 4) (w.heap.size + 2) (w.heap.size + 3) G n cg T m ct A q ca te j (tilesM ys j)) ∧ Hid (OMap wr (w.heap.size + 3) 0 (fun _ _ => false)) ∧ Hid (Below w.heap.size w wr) ∧ wr.cell? ⟨w.heap.size + 1, 0, none⟩ = some (.slice C k cc) ∧ w.heap.size + 4 < wr.heap.size)
  case atStart =>
    refine ⟨0, by omega, rfl, Lib.hid ⟨by simp, by go_simp, by go_simp, by go_simp, by go_simp, by go_simp, by go_simp, ?_⟩, Lib.hid ?_, Lib.hid (by exact bel_), by go_simp, by simp⟩
    · have := PMap.made ((w.alloc (Obj.cells #[.slice G n cg, .slice T m ct, .slice A q ca, .int .i64 te] 55)).alloc (Obj.cells #[.slice C k cc] 40))
      simp only [World.size_alloc] at this
      exact PMap.below this (bl_al (bl_al (bl_refl _) _) _)
    · have := OMap.made (((w.alloc (Obj.cells #[.slice G n cg, .slice T m ct, .slice A q ca, .int .i64 te] 55)).alloc (Obj.cells #[.slice C k cc] 40)).alloc (.map #[] 0))
      simp only [World.size_alloc] at this
      exact OMap.below this (bl_al (bl_refl _) _)
  case round =>
    obtain ⟨j, hj, rfl, hCr, hO, hbw, x0, hsz⟩ := hrel
    have e4 := hCr.out.c4
    have lb1 : w.heap.size + 1 < wr.heap.size := by omega
    have hsz' : w.heap.size + 4 ≤ wr.heap.size := by omega
    by_cases hjk : j < k
    · have hCw := hAH.out.below RPl.stable hbw.out
      obtain ⟨e, he⟩ := hCw.get hjk
      obtain ⟨b, ob, hCe, hb, hc⟩ := hCw.ptr (by omega)
      subst hCe
      obtain ⟨d0, d1, d2⟩ := hc j e he
      have hpt := hV.pt j e he
      obtain ⟨tn, htn, htl⟩ := hV.ti j e he
      have htl2 := hV.tl
      have hW1 := Lib.hid (show W64 e.x from W64.of (by omega))
      have hW2 := Lib.hid (show W64 e.y from W64.of (by omega))
      have hW3 := Lib.hid (show W64 e.t from W64.of (by omega))
      have hs := Lib.hid (tilesM_succ he)
      clear hc he hCw htn
      go_wp2
      refine wp_region_ord [(0, .q), (1, .q), (2, .q), (3, .q), (4, .q), (5, .q), (6, .q), (7, .q), (8, .b)] (by kernel_rfl) (by kernel_rfl) ?_
      simp only [pick, List.filterMap_cons, List.filterMap_nil, List.getElem?_toArray, List.getElem?_cons_zero, List.getElem?_cons_succ, Option.map_some]
      repeat (first | ((with_reducible refine wpD_p (fun K hK => ?_)); go_simp; refine hK _ ?_; clear hK K) | ((with_reducible refine wpD_q (fun K hK => ?_)); go_simp; (first | refine hK _ ?_ | (go_bits; refine hK _ ?_) | (go_bits; go_simp; refine hK _ ?_)); clear hK K))
      refine wpD_put_pmap rfl _ _ _ rfl (w.heap.size + 2) j _ (by go_simp) (hCr.out.tiles.below (by exact bel_)) e.x e.y e.t hW1.out hW2.out hW3.out (by unfold maxLen; omega) (by go_simp) (by go_simp) ?_
      intro w3 hM3 hm3
      with_reducible refine wpD_nil ?_
      have hm := Lib.hid ((Mk.of_below (lo := w.heap.size + 2) (hi := w.heap.size + 3) (show Below wr.heap.size wr _ by exact bel_) (by omega)).trans hm3)
      have hM3H := Lib.hid hM3
      have v0 := (hm.out.below.cell (p := ⟨w.heap.size + 1, 0, none⟩) (by simp)).trans x0
      have s3 := hm.out.size
      clear hM3 hm3 d0 d1 d2 e4 x0
      go_wp2
      go_roundg (k - (j + 1))
      case measure => omega
      case rel => exact ⟨j + 1, by omega, by go_num, Lib.hid (hCr.out.put hm.out (by omega) (by rw [hs.out]; exact hM3H.out)), Lib.hid (hO.out.mk hm.out (by omega)), Lib.hid (hbw.out.trans (hm.out.below.mono (by omega))), v0, by omega⟩
    · obtain rfl : j = k := by omega
      have hMH := Lib.hid (fun (i j : Int) (_ : W64 i) (_ : W64 j) => hkl ▸ tilesM_at hV i j)
      clear e4
      go_wp2
      obtain ⟨wq, rfl⟩ : ∃ wq : World, wq = wr := ⟨_, rfl⟩
      go_loopg [34] j (fun g c wr => ∃ (i no : Nat), i + g = j ∧ c = .int .i64 (i : Int) ∧ no ≤ 4 * i ∧ Hid (Crys wr (w.heap.size + 4) (w.heap.size + 2) (w.heap.size + 3) G n cg T m ct A q ca te j (tilesM ys j)) ∧ Hid (OMap wr (w.heap.size + 3) no (nearS (fitA gs ts ys te) ys i)) ∧ Hid (Below w.heap.size w wr) ∧ wr.cell? ⟨w.heap.size + 1, 0, none⟩ = some (.slice C j cc) ∧ w.heap.size + 4 < wr.heap.size)
      case atStart => exact ⟨0, 0, by omega, rfl, by omega, hCr, hO, hbw, by go_simp, by omega⟩
      case round =>
        obtain ⟨i, no, hi, rfl, hno, hCx, hOx, hbx, z0, hsx⟩ := hrel
        have lb2 : w.heap.size + 1 < wr.heap.size := by omega
        by_cases hij : i < j
        · have hCw := hAH.out.below RPl.stable hbx.out
          obtain ⟨e, he⟩ := hCw.get hij
          obtain ⟨b, ob, hCe, hb, hc⟩ := hCw.ptr (by omega)
          subst hCe
          obtain ⟨d0, d1, d2⟩ := hc i e he
          have hpt := hV.pt i e he
          have hs := Lib.hid (nearS_succ (F := fitA gs ts ys te) he)
          clear hc he hCw
          go_wp2_with fail
          refine (lookAround_any (w0 := w) hGH.out hTH.out (bl_al hbx.out _) (by omega) (hCx.out.below (by exact bel_)) hMH.out (hOx.out.below (by exact bel_)) (by omega) (by omega) (by omega) (nearS_sub i) hV (by omega) (by omega)).mono ?_
          rintro e' w2 ⟨rfl, ⟨no', hno', hO'⟩, hm⟩
          have hm2 := Lib.hid ((Mk.of_below (lo := w.heap.size + 3) (hi := w.heap.size + 4) (show Below wr.heap.size wr _ by exact bel_) (by omega)).trans hm)
          have hO'H := Lib.hid hO'
          have v0 := (hm2.out.below.cell (p := ⟨w.heap.size + 1, 0, none⟩) (by simp)).trans z0
          have s3 := hm2.out.size
          clear hO' hm d0 d1 d2 z0
          go_wp2
          go_roundg (j - (i + 1))
          case measure => omega
          case rel => exact ⟨i + 1, no', by omega, by go_num, by omega, Lib.hid (hCx.out.mkd hm2.out (by omega) (by omega)), Lib.hid (by rw [hs.out]; exact hO'H.out), Lib.hid (hbx.out.trans (hm2.out.below.mono (by omega))), v0, by omega⟩
        · obtain rfl : i = j := by omega
          go_wp2
          go_ret
          exact ⟨_, _, _, _, no, _, rfl, hCx.out, hMH.out, by rw [hkl]; exact hOx.out, by omega, hbx.out⟩
end Go.Proofs.YthieodccakphiaaGreat
/- Walks: Attach, by the program. -/


namespace Go.Proofs.YthieodccakphiaaGreat
open Go.RowKit Go.Shelf
attribute [local go_sem] BelowBy.cell BelowBy.cell_drew stillUpon givesUpon BelowBy.cell_drew2 BelowBy.cell_drew3

theorem isTile_at {A B : Option Addr} {n c m d : Nat} {t : Int} {w : World} (hm : m ≤ 140737488355328) {b : Bool} (h : inB t 0 ((m : Int) - 1) = b) :
    Calls Tryz.prog 40 #[.agg #[.slice A n c, .slice B m d], .int .i64 t] w fun e w' => e = .returned (.bool b) ∧ Below w.heap.size w w' := h ▸ isTile_any A B n c m d t w hm
set_option maxRecDepth 100000 in
set_option maxHeartbeats 2000000 in
theorem fits_bad {p tb ob : Nat} {A : Option Addr} {q ca : Nat} {te : Int} {nt : Nat} {M : Int → Int → Option Int} {G T : Option Addr} {n cg m ct : Nat} {x y t : Int} {w : World} (hC : Crys w p tb ob G n cg T m ct A q ca te nt M) (hv : validPt x y = false) :
    Calls Tryz.prog 42 #[.pointer (some ⟨p, 0, none⟩), .agg #[.int .i64 x, .int .i64 y], .int .i64 t] w fun e w' => e = .returned (.bool false) ∧ Below w.heap.size w w' := by
  
  have lp := hC.lt
  have lp' : p ≤ w.heap.size := Nat.le_of_lt lp
  have c0 := hC.c0
  have c1 := hC.c1
  have c3 := hC.c3
  have hvH := Lib.hid hv
  clear hC hv
  go_enter Tryz.func42, Tryz.ntmps42
  go_wp2
  refine wp_region_ord [(0, .q), (1, .g), (2, .q), (3, .q), (4, .q), (5, .g), (6, .q), (7, .q), (8, .q), (9, .q), (10, .q), (11, .q), (12, .q), (13, .q), (14, .q), (15, .q), (16, .q), (19, .q), (20, .q), (21, .q), (22, .q), (23, .q), (17, .g), (18, .g), (24, .q), (25, .q), (26, .q)] (by kernel_rfl) (by kernel_rfl) ?_
  simp only [pick, List.filterMap_cons, List.filterMap_nil, List.getElem?_toArray, List.getElem?_cons_zero, List.getElem?_cons_succ, Option.map_some]
  repeat (first
    | ((with_reducible refine wpD_p (fun K hK => ?_)); go_simp; refine hK _ ?_; clear hK K)
    | ((with_reducible refine wpD_q (fun K hK => ?_)); go_simp; (first | refine hK _ ?_ | (go_bits; refine hK _ ?_) | (go_bits; go_simp; refine hK _ ?_)); clear hK K)
    | ((with_reducible refine wpD_g (fun K hK => ?_)); go_simp; refine hK _ _ ?_; clear hK K)
    | ((with_reducible refine wpD_g (fun K hK => ?_)); go_simp; refine ⟨Grew.of_alloc _, hK _ _ ?_⟩; clear hK K)
    | ((with_reducible refine wpD_g (fun K hK => ?_)); go_simp; refine ⟨Below.refl _ _, hK _ _ ?_⟩; clear hK K)
    | ((with_reducible refine wpD_g (fun K hK => ?_)); go_simp; go_at_call 78; refine (ValidPoint_at hvH.out).mono ?_; rintro e w1 ⟨rfl, hb1⟩; refine ⟨_, rfl, hb1, hK _ _ ?_⟩; clear hK K; obtain ⟨chb1, fhb1, shb1, thb1⟩ := bcell hb1; (try have bhb10 := shb1 (w.heap.size) (by go_simp)); (try have bhb11 := shb1 (p) (by go_simp))))
  with_reducible refine wpD_nil ?_
  go_wp2
  go_ret
  exact ⟨rfl, by exact bel_⟩
theorem fits_at {p tb ob : Nat} {A : Option Addr} {q ca : Nat} {te : Int} {nt : Nat} {M : Int → Int → Option Int} {G T : Option Addr} {n cg m ct : Nat} {gs : List Gl} {ts : List Ti} {xs : List Pl} {x y t : Int} {k : Nat} {w : World} (hG : RdSl 2 RGl w G n gs) (hT : RdSl 2 RTi w T m ts) (hC : Crys w p tb ob G n cg T m ct A q ca te nt M) (hM : ∀ i j, W64 i → W64 j → (M i j).getD (-1) = atI xs i j) (hV : Valid gs ts xs) (hk : k < ts.length) (ht : t = k) {b : Bool} (hb : fitB gs ts xs te x y k = b) :
    Calls Tryz.prog 42 #[.pointer (some ⟨p, 0, none⟩), .agg #[.int .i64 x, .int .i64 y], .int .i64 t] w fun e w' => e = .returned (.bool b) ∧ Below w.heap.size w w' := by
  subst ht
  cases hv : validPt x y
  · obtain rfl := fitB_pt hv hb
    exact fits_bad hC hv
  · exact fits_any G T n cg m ct gs ts xs x y k w hG hT hC hM hV hk (validPt_bd hv).1 (validPt_bd hv).2 hb
set_option maxRecDepth 100000 in
set_option maxHeartbeats 4000000 in
theorem Attach_any (G T A C : Option Addr) (n cg m ct q ca k cc : Nat) (gs : List Gl) (ts : List Ti) (xs ys : List Pl) (te x y t : Int) (w : World) (h : SA w G n T m A q gs ts xs) (h2 : SA w G n T m C k gs ts ys) :
    Calls Tryz.prog 17 #[.agg #[.slice G n cg, .slice T m ct, .slice A q ca, .int .i64 te], .agg #[.slice C k cc], .agg #[.int .i64 x, .int .i64 y, .int .i64 t]] w (AsmRes w (attR gs ts xs te ys x y t)) := by
  
  have hS := Lib.hid h
  have hA := Lib.hid h2
  have hkl := h2.A.len
  have hml := h.T.len
  clear h h2
  cases hg : growB gs ts xs te ys
  · have hgH := Lib.hid hg
    clear hg
    go_enter Tryz.func17, Tryz.ntmps17
    go_wp2_with (go_at_call 39; refine (growthCode_at (hS.out.below (by exact bel_)) (hA.out.below (by exact bel_)) hgH.out).mono ?_; simp only [codeB_false]; rintro e w1 ⟨rfl, hb1⟩; obtain ⟨chb1, fhb1, shb1, thb1⟩ := bcell hb1; (have b0 := shb1 w.heap.size (by go_simp)); (have b3 := shb1 (w.heap.size + 1 + 1 + 1) (by go_simp)))
    refine bodyPost_ret (v := .tuple #[.agg #[.slice none 0 0], .int .i64 1]) (by simp only [results, Tryz.results17]; go_simp) rfl ?_
    have hB1 := Lib.hid (show Below w.heap.size w w1 by exact bel_)
    exact AsmRes.of (attR_no hgH.out) rfl (World.ownsRow_nil _ _ _ _) (hB1.out.setCell (p := ⟨w.heap.size + 1 + 1 + 1, 0, none⟩) (by show w.heap.size ≤ w.heap.size + 1 + 1 + 1; omega) _)
  · have hgH := Lib.hid hg
    have hV := valid_of (growB_true hg).2
    have htl := hV.tl
    have hml2 : m ≤ 140737488355328 := by omega
    clear hg
    cases hi : inB t 0 ((m : Int) - 1)
    · have hiH := Lib.hid hi
      have hcH := Lib.hid (canB_tile (gs := gs) (ts := ts) (ys := ys) (te := te) (x := x) (y := y) (t := t) (by rw [hml]; exact hi))
      clear hi
      go_enter Tryz.func17, Tryz.ntmps17
      go_wp2_with (go_at_call 39; refine (growthCode_at (hS.out.below (by exact bel_)) (hA.out.below (by exact bel_)) hgH.out).mono ?_; simp only [codeB_true]; rintro e w1 ⟨rfl, hb1⟩; obtain ⟨chb1, fhb1, shb1, thb1⟩ := bcell hb1; (have b0 := shb1 w.heap.size (by go_simp)); (have b1 := shb1 (w.heap.size + 1) (by go_simp)); (have b2 := shb1 (w.heap.size + 1 + 1) (by go_simp)); (have b3 := shb1 (w.heap.size + 1 + 1 + 1) (by go_simp)))
      refine wp_region_ord [(0, .q), (1, .q), (2, .q), (3, .q), (4, .g), (5, .q), (6, .q), (7, .q), (8, .q), (10, .q), (11, .q), (12, .q), (13, .q), (9, .g), (14, .g), (15, .q), (16, .q), (17, .q)] (by kernel_rfl) (by kernel_rfl) ?_
      simp only [pick, List.filterMap_cons, List.filterMap_nil, List.getElem?_toArray, List.getElem?_cons_zero, List.getElem?_cons_succ, Option.map_some]
      repeat (first
        | ((with_reducible refine wpD_p (fun K hK => ?_)); go_simp; refine hK _ ?_; clear hK K)
        | ((with_reducible refine wpD_q (fun K hK => ?_)); go_simp; (first | refine hK _ ?_ | (go_bits; refine hK _ ?_) | (go_bits; go_simp; refine hK _ ?_)); clear hK K)
        | ((with_reducible refine wpD_g (fun K hK => ?_)); go_simp; refine hK _ _ ?_; clear hK K)
        | ((with_reducible refine wpD_g (fun K hK => ?_)); go_simp; refine ⟨Grew.of_alloc _, hK _ _ ?_⟩; clear hK K)
        | ((with_reducible refine wpD_g (fun K hK => ?_)); go_simp; refine ⟨Below.refl _ _, hK _ _ ?_⟩; clear hK K)
        | ((with_reducible refine wpD_g (fun K hK => ?_)); go_simp; go_at_call 40; refine (isTile_at hml2 hiH.out).mono ?_; rintro e w2 ⟨rfl, hb2⟩; refine ⟨_, rfl, hb2, hK _ _ ?_⟩; clear hK K; obtain ⟨chb2, fhb2, shb2, thb2⟩ := bcell hb2; (try have bhb20 := shb2 (w.heap.size) (by go_simp)); (try have bhb21 := shb2 (w.heap.size + 1) (by go_simp)); (try have bhb22 := shb2 (w.heap.size + 1 + 1) (by go_simp)); (try have bhb23 := shb2 (w.heap.size + 1 + 1 + 1) (by go_simp)); have qhb20 := chb2 w.heap.size 0 (by go_simp); have qhb21 := chb2 w.heap.size 1 (by go_simp); have qhb22 := chb2 w.heap.size 2 (by go_simp); have qhb23 := chb2 w.heap.size 3 (by go_simp); have qhb24 := chb2 (w.heap.size + 1) 0 (by go_simp); have qhb25 := chb2 (w.heap.size + 1 + 1) 0 (by go_simp); have qhb26 := chb2 (w.heap.size + 1 + 1) 1 (by go_simp); have qhb27 := chb2 (w.heap.size + 1 + 1) 2 (by go_simp); have qhb28 := chb2 (w.heap.size + 1 + 1 + 1) 0 (by go_simp); have qfhb2 := fhb2 (w.heap.size + 1 + 1 + 1) 0 (by go_simp); clear chb2 fhb2))
      with_reducible refine wpD_nil ?_
      have hB2 := Lib.hid (show Below w.heap.size w w2 by exact bel_)
      go_wp2
      refine bodyPost_ret (v := .tuple #[.agg #[.slice none 0 0], .int .i64 2]) (by simp only [results, Tryz.results17]; go_simp) rfl ?_
      exact AsmRes.of (attR_not hgH.out hcH.out) rfl (World.ownsRow_nil _ _ _ _) (hB2.out.setCell (p := ⟨w.heap.size + 1 + 1 + 1, 0, none⟩) (by show w.heap.size ≤ w.heap.size + 1 + 1 + 1; omega) _)
    · have hiH := Lib.hid hi
      obtain ⟨j, hj, hjl⟩ := inB_nat (ts := ts) (by rw [hml]; exact hi)
      obtain ⟨b, hb⟩ : ∃ b, fitB gs ts ys te x y j = b := ⟨_, rfl⟩
      have hcH := Lib.hid (canB_fit (t := t) (by rw [hml]; exact hi) hj hb)
      have hbH := Lib.hid hb
      have hjH := Lib.hid hj
      clear hi hb hj
      go_enter Tryz.func17, Tryz.ntmps17
      go_wp2_with (go_at_call 39; refine (growthCode_at (hS.out.below (by exact bel_)) (hA.out.below (by exact bel_)) hgH.out).mono ?_; simp only [codeB_true]; rintro e w1 ⟨rfl, hb1⟩; obtain ⟨chb1, fhb1, shb1, thb1⟩ := bcell hb1; (have b0 := shb1 w.heap.size (by go_simp)); (have b1 := shb1 (w.heap.size + 1) (by go_simp)); (have b2 := shb1 (w.heap.size + 1 + 1) (by go_simp)); (have b3 := shb1 (w.heap.size + 1 + 1 + 1) (by go_simp)))
      refine wp_region_ord [(0, .q), (1, .q), (2, .q), (3, .q), (4, .g), (5, .q), (6, .q), (7, .q), (8, .q), (10, .q), (11, .q), (12, .q), (13, .q), (9, .g), (14, .g), (15, .q), (16, .q), (17, .q)] (by kernel_rfl) (by kernel_rfl) ?_
      simp only [pick, List.filterMap_cons, List.filterMap_nil, List.getElem?_toArray, List.getElem?_cons_zero, List.getElem?_cons_succ, Option.map_some]
      repeat (first
        | ((with_reducible refine wpD_p (fun K hK => ?_)); go_simp; refine hK _ ?_; clear hK K)
        | ((with_reducible refine wpD_q (fun K hK => ?_)); go_simp; (first | refine hK _ ?_ | (go_bits; refine hK _ ?_) | (go_bits; go_simp; refine hK _ ?_)); clear hK K)
        | ((with_reducible refine wpD_g (fun K hK => ?_)); go_simp; refine hK _ _ ?_; clear hK K)
        | ((with_reducible refine wpD_g (fun K hK => ?_)); go_simp; refine ⟨Grew.of_alloc _, hK _ _ ?_⟩; clear hK K)
        | ((with_reducible refine wpD_g (fun K hK => ?_)); go_simp; refine ⟨Below.refl _ _, hK _ _ ?_⟩; clear hK K)
        | ((with_reducible refine wpD_g (fun K hK => ?_)); go_simp; go_at_call 40; refine (isTile_at hml2 hiH.out).mono ?_; rintro e w2 ⟨rfl, hb2⟩; refine ⟨_, rfl, hb2, hK _ _ ?_⟩; clear hK K; obtain ⟨chb2, fhb2, shb2, thb2⟩ := bcell hb2; (try have bhb20 := shb2 (w.heap.size) (by go_simp)); (try have bhb21 := shb2 (w.heap.size + 1) (by go_simp)); (try have bhb22 := shb2 (w.heap.size + 1 + 1) (by go_simp)); (try have bhb23 := shb2 (w.heap.size + 1 + 1 + 1) (by go_simp)); have qhb20 := chb2 w.heap.size 0 (by go_simp); have qhb21 := chb2 w.heap.size 1 (by go_simp); have qhb22 := chb2 w.heap.size 2 (by go_simp); have qhb23 := chb2 w.heap.size 3 (by go_simp); have qhb24 := chb2 (w.heap.size + 1) 0 (by go_simp); have qhb25 := chb2 (w.heap.size + 1 + 1) 0 (by go_simp); have qhb26 := chb2 (w.heap.size + 1 + 1) 1 (by go_simp); have qhb27 := chb2 (w.heap.size + 1 + 1) 2 (by go_simp); have qhb28 := chb2 (w.heap.size + 1 + 1 + 1) 0 (by go_simp); have qfhb2 := fhb2 (w.heap.size + 1 + 1 + 1) 0 (by go_simp); clear chb2 fhb2))
      with_reducible refine wpD_g (fun K hK => ?_)
      go_simp
      refine (newCrystal_any (hS.out.G.below RGl.stable (by exact bel_)) (hS.out.T.below RTi.stable (by exact bel_)) (hA.out.A.below RPl.stable (by exact bel_)) hV).mono ?_
      rintro e' w3 ⟨p, tb, ob, nt, no, M, rfl, hC, hM, hO, hno, hb3⟩
      refine ⟨_, rfl, hb3, hK _ _ ?_⟩
      clear hK K hO
      have hCH := Lib.hid hC
      have hMH := Lib.hid hM
      clear hC hM
      obtain ⟨chb3, fhb3, shb3, thb3⟩ := bcell hb3
      have qhb30 := chb3 w.heap.size 0 (by go_simp)
      have qhb31 := chb3 w.heap.size 1 (by go_simp)
      have qhb32 := chb3 w.heap.size 2 (by go_simp)
      have qhb33 := chb3 w.heap.size 3 (by go_simp)
      have qhb34 := chb3 (w.heap.size + 1) 0 (by go_simp)
      have qhb35 := chb3 (w.heap.size + 1 + 1) 0 (by go_simp)
      have qhb36 := chb3 (w.heap.size + 1 + 1) 1 (by go_simp)
      have qhb37 := chb3 (w.heap.size + 1 + 1) 2 (by go_simp)
      have qhb38 := chb3 (w.heap.size + 1 + 1 + 1) 0 (by go_simp)
      have qfhb3 := fhb3 (w.heap.size + 1 + 1 + 1) 0 (by go_simp)
      clear chb3 fhb3
      (have b30 := shb3 w.heap.size (by go_simp))
      (have b31 := shb3 (w.heap.size + 1) (by go_simp))
      (have b32 := shb3 (w.heap.size + 1 + 1) (by go_simp))
      (have b33 := shb3 (w.heap.size + 1 + 1 + 1) (by go_simp))
      repeat (first
        | ((with_reducible refine wpD_p (fun K hK => ?_)); go_simp; refine hK _ ?_; clear hK K)
        | ((with_reducible refine wpD_q (fun K hK => ?_)); go_simp; (first | refine hK _ ?_ | (go_bits; refine hK _ ?_) | (go_bits; go_simp; refine hK _ ?_)); clear hK K)
        | ((with_reducible refine wpD_g (fun K hK => ?_)); go_simp; refine hK _ _ ?_; clear hK K)
        | ((with_reducible refine wpD_g (fun K hK => ?_)); go_simp; refine ⟨Grew.of_alloc _, hK _ _ ?_⟩; clear hK K)
        | ((with_reducible refine wpD_g (fun K hK => ?_)); go_simp; go_at_call 42; refine (fits_at (hS.out.G.below RGl.stable (by exact bel_)) (hS.out.T.below RTi.stable (by exact bel_)) (hCH.out.below (by exact bel_)) hMH.out hV hjl hjH.out hbH.out).mono ?_; rintro e w4 ⟨rfl, hb4⟩; refine ⟨_, rfl, hb4, hK _ _ ?_⟩; clear hK K; obtain ⟨chb4, fhb4, shb4, thb4⟩ := bcell hb4; (try have bhb40 := shb4 (w.heap.size) (by go_simp)); (try have bhb41 := shb4 (w.heap.size + 1) (by go_simp)); (try have bhb42 := shb4 (w.heap.size + 1 + 1) (by go_simp)); (try have bhb43 := shb4 (w.heap.size + 1 + 1 + 1) (by go_simp)); have qhb40 := chb4 w.heap.size 0 (by go_simp); have qhb41 := chb4 w.heap.size 1 (by go_simp); have qhb42 := chb4 w.heap.size 2 (by go_simp); have qhb43 := chb4 w.heap.size 3 (by go_simp); have qhb44 := chb4 (w.heap.size + 1) 0 (by go_simp); have qhb45 := chb4 (w.heap.size + 1 + 1) 0 (by go_simp); have qhb46 := chb4 (w.heap.size + 1 + 1) 1 (by go_simp); have qhb47 := chb4 (w.heap.size + 1 + 1) 2 (by go_simp); have qhb48 := chb4 (w.heap.size + 1 + 1 + 1) 0 (by go_simp); have qfhb4 := fhb4 (w.heap.size + 1 + 1 + 1) 0 (by go_simp); clear chb4 fhb4))
      with_reducible refine wpD_nil ?_
      have hB4 := Lib.hid (show Below w.heap.size w w4 by exact bel_)
      cases b
      · go_wp2
        refine bodyPost_ret (v := .tuple #[.agg #[.slice none 0 0], .int .i64 2]) (by simp only [results, Tryz.results17]; go_simp) rfl ?_
        exact AsmRes.of (attR_not hgH.out hcH.out) rfl (World.ownsRow_nil _ _ _ _) (hB4.out.setCell (p := ⟨w.heap.size + 1 + 1 + 1, 0, none⟩) (by show w.heap.size ≤ w.heap.size + 1 + 1 + 1; omega) _)
      · by_cases hfull : 500 ≤ k
        · go_wp2
          refine bodyPost_ret (v := .tuple #[.agg #[.slice none 0 0], .int .i64 4]) (by simp only [results, Tryz.results17]; go_simp) rfl ?_
          exact AsmRes.of (attR_full hgH.out hcH.out (by omega)) rfl (World.ownsRow_nil _ _ _ _) (hB4.out.setCell (p := ⟨w.heap.size + 1 + 1 + 1, 0, none⟩) (by show w.heap.size ≤ w.heap.size + 1 + 1 + 1; omega) _)
        · go_wp2_with (go_at_call 43; refine (with_any C k cc gs ts ys x y t _ (hA.out.A.below RPl.stable (by exact bel_)) hV).mono ?_; rintro e w5 ⟨i, v5, hIns, rfl, ho5, hb5⟩; obtain ⟨A5, c5, rfl⟩ := ownsRow_form ho5; obtain ⟨chb5, fhb5, shb5, thb5⟩ := bcell hb5; have q53 := chb5 (w.heap.size + 1 + 1 + 1) 0 (by go_simp); have qf5 := fhb5 (w.heap.size + 1 + 1 + 1) 0 (by go_simp); (have b53 := shb5 (w.heap.size + 1 + 1 + 1) (by go_simp)); have hIH := Lib.hid hIns; have hoH := Lib.hid ho5; have hB5 := Lib.hid (show Below w.heap.size w w5 by exact bel_); clear hIns ho5)
          refine bodyPost_ret (v := .tuple #[.agg #[.slice A5 (insL ys i ⟨x, y, t⟩).length c5], .int .i64 0]) (by simp only [results, Tryz.results17]; go_simp) rfl ?_
          exact AsmRes.of (attR_put hgH.out hcH.out (by omega) hIH.out) rfl (ownsRow_baseA (ownsRow_setLow hoH.out (p := ⟨w.heap.size + 1 + 1 + 1, 0, none⟩) (by first | assumption | omega) _) (by have := hB4.out.size; omega)) (hB5.out.setCell (p := ⟨w.heap.size + 1 + 1 + 1, 0, none⟩) (by show w.heap.size ≤ w.heap.size + 1 + 1 + 1; omega) _)
end Go.Proofs.YthieodccakphiaaGreat
/- Walks: the reference puts a tile into an assembly. -/





namespace Go.Proofs.YthieodccakphiaaGreat
open Go.RowKit Go.Shelf
attribute [local go_sem] BelowBy.cell BelowBy.cell_drew stillUpon givesUpon BelowBy.cell_drew2 BelowBy.cell_drew3

/-- what has been laid when i tiles have been looked at -/
def putR (ys : List Pl) (e : Pl) (j0 i : Nat) : List Pl := if j0 < i then insL (ys.take i) j0 e else ys.take i
theorem putR_lt {ys : List Pl} {e d : Pl} {j0 i : Nat} (h : i < j0) (hd : ys[i]? = some d) : putR ys e j0 (i + 1) = putR ys e j0 i ++ [d] := by
  obtain ⟨hi, rfl⟩ := List.getElem?_eq_some_iff.1 hd
  unfold putR
  rw [if_neg (by omega), if_neg (by omega), List.take_succ_eq_append_getElem hi]
theorem putR_eq {ys : List Pl} {e d : Pl} {j0 : Nat} (hd : ys[j0]? = some d) : putR ys e j0 (j0 + 1) = (putR ys e j0 j0 ++ [e]) ++ [d] := by
  obtain ⟨hi, rfl⟩ := List.getElem?_eq_some_iff.1 hd
  unfold putR insL
  rw [if_pos (by omega), if_neg (by omega), List.take_take, List.drop_take]
  have h1 : min j0 (j0 + 1) = j0 := by omega
  have h2 : j0 + 1 - j0 = 1 := by omega
  rw [h1, h2, show (ys.drop j0).take 1 = [ys[j0]] by rw [List.drop_eq_getElem_cons hi]; rfl]
  simp
theorem putR_gt {ys : List Pl} {e d : Pl} {j0 i : Nat} (h : j0 < i) (hd : ys[i]? = some d) : putR ys e j0 (i + 1) = putR ys e j0 i ++ [d] := by
  obtain ⟨hi, rfl⟩ := List.getElem?_eq_some_iff.1 hd
  unfold putR insL
  rw [if_pos (by omega), if_pos h, List.take_take, List.take_take, List.drop_take, List.drop_take]
  have h1 : min j0 (i + 1) = j0 := by omega
  have h2 : min j0 i = j0 := by omega
  have h3 : i + 1 - j0 = (i - j0) + 1 := by omega
  rw [h1, h2, h3, List.take_succ_eq_append_getElem (by simp; omega)]
  simp only [List.getElem_drop, List.append_assoc, List.cons_append]
  have h4 : j0 + (i - j0) = i := by omega
  simp only [h4]
theorem putR_end {ys : List Pl} {e : Pl} {j0 : Nat} (h : j0 < ys.length) : putR ys e j0 ys.length = insL ys j0 e := by
  unfold putR; rw [if_pos h, List.take_length]
theorem putR_end2 {ys : List Pl} {e : Pl} {j0 : Nat} (h : j0 = ys.length) : putR ys e j0 ys.length ++ [e] = insL ys j0 e := by
  subst h; unfold putR; rw [if_neg (by omega), List.take_length, insL_end]
theorem putR_len {ys : List Pl} {e : Pl} {j0 i : Nat} (h : i ≤ ys.length) : (putR ys e j0 i).length = if j0 < i then i + 1 else i := by
  unfold putR
  split
  · rw [insL_len, List.length_take]; omega
  · rw [List.length_take]; omega
theorem cell_three_newA (w : World) (a b c : Value) (t : TypeId) : ∀ j u, [a, b, c][j]? = some u → (w.alloc (Obj.cells #[a, b, c] t)).cell? ((⟨w.heap.size, 0, none⟩ : Addr).add j) = some u := by
  intro j u hj
  match j, hj with
  | 0, hj => simp at hj; subst hj; simp [Addr.add]
  | 1, hj => simp at hj; subst hj; simp [Addr.add]
  | 2, hj => simp at hj; subst hj; simp [Addr.add]
  | j + 3, hj => simp at hj
theorem ownsRow_lowA {w : World} {base base' : Nat} {e : TypeId} {size : Nat} {v : Value} {n : Nat} {xs : List Value} (h : w.ownsRow base e size v n xs) (hb : base' ≤ base) : w.ownsRow base' e size v n xs :=
  ⟨h.1, h.2.imp id (fun ⟨g, cap, cur, h1, h2, h3⟩ => ⟨g, cap, cur, h1, Nat.le_trans hb h2, h3⟩)⟩
theorem ownsRow_setLowA {w : World} {base : Nat} {e : TypeId} {size : Nat} {v : Value} {n : Nat} {xs : List Value} (h : w.ownsRow base e size v n xs) {p : Addr} (hp : p.block < base) (x : Value) : (w.setCell p x).ownsRow base e size v n xs := by
  refine h.kept (row := some p.block) ⟨rfl, rfl, rfl, by simp, fun k hk hne => Below.heap_setCell _ _ _ _ (fun e => hne (by rw [e]))⟩ ?_
  cases hb : v.ownBlock with
  | none => exact .inl rfl
  | some g => exact .inr fun e' => by have := (h.lt g hb).1; injection e'; omega
set_option maxRecDepth 100000 in
set_option maxHeartbeats 8000000 in
theorem l03Put_any {op : Nat} (p : Nat) (gs : List Gl) (ts : List Ti) (ys : List Pl) (x y t : Int) (j0 : Nat) (w : World) (ha : AsmAt w p op ys) (hn : ys.length ≤ 100000) (hj : j0 ≤ ys.length) (hlo : ∀ (k : Nat) (d : Pl), k < j0 → ys[k]? = some d → lessPt x y d.x d.y = false) (hhi : ∀ (d : Pl), ys[j0]? = some d → lessPt x y d.x d.y = true) :
    Calls Tryz.prog 74 #[.pointer (some ⟨p, op, none⟩), .agg #[.int .i64 x, .int .i64 y], .int .i64 t] w fun e w' => ∃ v, e = .returned (.agg #[v]) ∧ w'.ownsRow w.heap.size 108 3 v (insL ys j0 ⟨x, y, t⟩).length (plCells (insL ys j0 ⟨x, y, t⟩)) ∧ Below w.heap.size w w' := by
  obtain ⟨i0, hi0, hz0, hz1, hz2⟩ := info_parts infoPl
  obtain ⟨hlt, A, q, ca, c1, rda⟩ := id ha
  have hlq := rda.len
  have hq : q ≤ 100000 := by omega
  have rdaH := Lib.hid rda
  have c1H := Lib.hid c1
  have hlqH := Lib.hid hlq
  have hloH := Lib.hid hlo
  have hhiH := Lib.hid hhi
  obtain ⟨e0, he0⟩ : ∃ e : Pl, e = ⟨x, y, t⟩ := ⟨_, rfl⟩
  have he0H := Lib.hid he0
  rw [← he0]
  have hj2 : j0 ≤ q := by omega
  clear ha rda c1 hlq hlo hhi he0 hj
  go_enter Tryz.func74, Tryz.ntmps74
  go_wp2_with fail
  go_loopg [9, 8] q (fun r a d wr => ∃ (i N : Nat) (b : Bool) (A3 : Option Addr) (c3 : Nat), i + r = q ∧ a = .int .i64 (i : Int) ∧ d = .bool b ∧ Hid (b = decide (j0 < i)) ∧ Hid (N = (putR ys e0 j0 i).length) ∧ N ≤ i + 1 ∧ Hid (wr.ownsRow (w.heap.size + 3) 108 3 (.slice A3 N c3) N (plCells (putR ys e0 j0 i))) ∧ Hid (Below w.heap.size w wr) ∧ w.heap.size + 1 + 1 < wr.heap.size ∧ wr.cell? ⟨w.heap.size + 1 + 1, 0, none⟩ = some (.slice A3 N c3) ∧ wr.frozen? ⟨w.heap.size + 1 + 1, 0, none⟩ = false ∧ wr.cell? ⟨w.heap.size + 1, 0, none⟩ = some (.slice none 0 0) ∧ wr.frozen? ⟨w.heap.size + 1, 0, none⟩ = false ∧ wr.cell? ⟨w.heap.size, 0, none⟩ = some (.int .i64 x) ∧ wr.cell? ⟨w.heap.size, 1, none⟩ = some (.int .i64 y))
  case atStart => exact ⟨0, 0, false, none, 0, by omega, rfl, rfl, Lib.hid (by simp), Lib.hid (by simp [putR]), by omega, Lib.hid (by rw [show putR ys e0 j0 0 = [] by simp [putR]]; exact World.ownsRow_nil _ _ _ _), Lib.hid (by exact bel_), by simp, by go_simp, by go_simp, by go_simp, by go_simp, by go_simp, by go_simp⟩
  case round =>
    obtain ⟨i, N, b, A3, c3, hr, rfl, rfl, hb, hN, hN1, hO, hbw, hsz, d0, df, r0, rf, p0, p1⟩ := hrel
    have hsw := hbw.out.size
    have a1 := (hbw.out.cell (p := ⟨p, op, none⟩) hlt).trans c1H.out
    have l1 : p < wr.heap.size := Nat.lt_of_lt_of_le hlt hsw
    have l0 : w.heap.size < wr.heap.size := by omega
    have l2 : w.heap.size + 1 < wr.heap.size := by omega
    by_cases hiq : i < q
    · obtain ⟨d, hd⟩ : ∃ d, ys[i]? = some d := ⟨_, List.getElem?_eq_getElem (by have := hlqH.out; omega)⟩
      obtain ⟨bA, oA, rfl, hbA0, hcA⟩ := rdaH.out.ptr (by omega)
      obtain ⟨g0, g1, g2⟩ := hcA i d hd
      replace g0 := (hbw.out.cell (p := ⟨bA, oA + i * 3, none⟩) hbA0).trans g0
      replace g1 := (hbw.out.cell (p := ⟨bA, oA + i * 3 + 1, none⟩) hbA0).trans g1
      replace g2 := (hbw.out.cell (p := ⟨bA, oA + i * 3 + 2, none⟩) hbA0).trans g2
      have hbA : bA < wr.heap.size := Nat.lt_of_lt_of_le hbA0 hsw
      have hdH := Lib.hid hd
      clear hcA hd
      rcases Nat.lt_trichotomy i j0 with hij | hij | hij
      · obtain rfl : false = b := by rw [hb.out]; exact (decide_eq_false (by omega)).symm
        have hl0 := Lib.hid (hloH.out i d hij hdH.out)
        have hnx := Lib.hid (putR_lt (e := e0) hij hdH.out)
        go_wp2_with fail
        refine wp_region_ord [(0, .q), (1, .q), (2, .q), (3, .q), (4, .q), (5, .q), (6, .q), (7, .q), (8, .q), (9, .q), (10, .q), (11, .q), (12, .g), (13, .q)] (by kernel_rfl) (by kernel_rfl) ?_
        simp only [pick, List.filterMap_cons, List.filterMap_nil, List.getElem?_toArray, List.getElem?_cons_zero, List.getElem?_cons_succ, Option.map_some]
        repeat (first
          | ((with_reducible refine wpD_p (fun K hK => ?_)); go_simp; refine hK _ ?_; clear hK K)
          | ((with_reducible refine wpD_q (fun K hK => ?_)); go_simp; (first | refine hK _ ?_ | (go_bits; refine hK _ ?_) | (go_bits; go_simp; refine hK _ ?_)); clear hK K)
          | ((with_reducible refine wpD_g (fun K hK => ?_)); go_simp; refine hK _ _ ?_; clear hK K)
          | ((with_reducible refine wpD_g (fun K hK => ?_)); go_simp; refine ⟨Grew.of_alloc _, hK _ _ ?_⟩; clear hK K)
          | ((with_reducible refine wpD_g (fun K hK => ?_)); go_simp; refine ⟨Below.refl _ _, hK _ _ ?_⟩; clear hK K)
          | ((with_reducible refine wpD_g (fun K hK => ?_)); go_simp; go_at_call 94; refine (sLessPoint_at hl0.out).mono ?_; rintro e w2 ⟨rfl, hbw2⟩; refine ⟨_, rfl, hbw2, hK _ _ ?_⟩; clear hK K; obtain ⟨chbw2, fhbw2, shbw2, thbw2⟩ := bcell hbw2))
        with_reducible refine wpD_nil ?_
        have hB2 : Below wr.heap.size wr w2 := (by exact bel_)
        replace g0 := (hB2.cell (p := ⟨bA, oA + i * 3, none⟩) hbA).trans g0
        replace g1 := (hB2.cell (p := ⟨bA, oA + i * 3 + 1, none⟩) hbA).trans g1
        replace g2 := (hB2.cell (p := ⟨bA, oA + i * 3 + 2, none⟩) hbA).trans g2
        replace hbA := Nat.lt_of_lt_of_le hbA hB2.size
        replace d0 := (hB2.cell (p := ⟨w.heap.size + 1 + 1, 0, none⟩) hsz).trans d0
        replace df := (hB2.frozen (p := ⟨w.heap.size + 1 + 1, 0, none⟩) hsz).trans df
        replace r0 := (hB2.cell (p := ⟨w.heap.size + 1, 0, none⟩) l2).trans r0
        replace rf := (hB2.frozen (p := ⟨w.heap.size + 1, 0, none⟩) l2).trans rf
        replace p0 := (hB2.cell (p := ⟨w.heap.size, 0, none⟩) l0).trans p0
        replace p1 := (hB2.cell (p := ⟨w.heap.size, 1, none⟩) l0).trans p1
        replace a1 := (hB2.cell (p := ⟨p, op, none⟩) l1).trans a1
        replace hO := Lib.hid (ownsRow_below hO.out hB2)
        replace hbw := Lib.hid (hbw.out.trans (hB2.mono hsw))
        replace hsz := Nat.lt_of_lt_of_le hsz hB2.size
        replace l1 := Nat.lt_of_lt_of_le l1 hB2.size
        replace l0 := Nat.lt_of_lt_of_le l0 hB2.size
        replace l2 := Nat.lt_of_lt_of_le l2 hB2.size
        replace hsw := Nat.le_trans hsw hB2.size
        have hsb : w.heap.size + 3 ≤ w2.heap.size := by omega
        clear hB2 hbw2 chbw2 fhbw2 shbw2 thbw2
        go_wp2_with fail
        refine wp_region_ord [(0, .q), (1, .q), (2, .q), (3, .q), (4, .q), (5, .q), (6, .q), (7, .q), (8, .q), (9, .g), (10, .b), (11, .q), (12, .b)] (by kernel_rfl) (by kernel_rfl) ?_
        simp only [pick, List.filterMap_cons, List.filterMap_nil, List.getElem?_toArray, List.getElem?_cons_zero, List.getElem?_cons_succ, Option.map_some]
        repeat (first | ((with_reducible refine wpD_p (fun K hK => ?_)); go_simp; refine hK _ ?_; clear hK K) | ((with_reducible refine wpD_q (fun K hK => ?_)); go_simp; (first | refine hK _ ?_ | (go_bits; refine hK _ ?_) | (go_bits; go_simp; refine hK _ ?_)); clear hK K))
        with_reducible refine wpD_g (fun K hK => ?_)
        go_simp
        refine ⟨Grew.of_alloc _, hK _ _ ?_⟩
        clear hK K
        have hb5 : Hid (Below w2.heap.size w2 (w2.alloc (Obj.cells #[.int .i64 d.x, .int .i64 d.y, .int .i64 d.t] 108)).drew) := Lib.hid (by exact bel_)
        refine wpD_append rfl _ _ 38 rfl (w.heap.size + 3) 108 i0 (.agg #[.int .i64 0, .int .i64 0, .int .i64 0]) 3 24 Tryz.underlying38 hi0 hz0 hz1 hz2 rfl (by decide) _ N (plCells (putR ys e0 j0 i)) (by go_simp) (ownsRow_below hO.out hb5.out) ⟨w2.heap.size, 0, none⟩ 1 1 [.int .i64 d.x, .int .i64 d.y, .int .i64 d.t] (by go_simp) rfl ?hnews (fun x hx => by simp at hx; rcases hx with rfl | rfl | rfl <;> rfl) (by unfold maxLen; omega) (by omega) (by simp; omega) ?_
        case hnews =>
          have := cell_three_newA w2 (.int .i64 d.x) (.int .i64 d.y) (.int .i64 d.t) 108
          simpa using this
        intro v5 w5 hown hgrow
        obtain ⟨g5, c5, rfl⟩ := ownsRow_succ hown
        have hB5 : Below (w.heap.size + 3) w2 w5 := (hb5.out.mono hsb).grown hgrow (by simp; omega) (fun g e => (hO.out.lt g e).1)
        have hs5 : w.heap.size + 3 ≤ w5.heap.size := Nat.le_trans hsb hB5.size
        replace d0 := (hB5.cell (p := ⟨w.heap.size + 1 + 1, 0, none⟩) (by simp)).trans d0
        replace df := (hB5.frozen (p := ⟨w.heap.size + 1 + 1, 0, none⟩) (by simp)).trans df
        replace r0 := (hB5.cell (p := ⟨w.heap.size + 1, 0, none⟩) (by simp)).trans r0
        replace rf := (hB5.frozen (p := ⟨w.heap.size + 1, 0, none⟩) (by simp)).trans rf
        replace p0 := (hB5.cell (p := ⟨w.heap.size, 0, none⟩) (by simp)).trans p0
        replace p1 := (hB5.cell (p := ⟨w.heap.size, 1, none⟩) (by simp)).trans p1
        have lz : w.heap.size + 1 + 1 < w5.heap.size := by omega
        have hown' : w5.ownsRow (w.heap.size + 3) 108 3 (.slice (some ⟨g5, 0, none⟩) (N + 1) c5) (N + 1) (plCells (putR ys e0 j0 (i + 1))) := by rw [hnx.out, plCells_snoc]; exact hown
        have hO5 := Lib.hid (ownsRow_setLowA (base := w.heap.size + 3) hown' (p := ⟨w.heap.size + 1 + 1, 0, none⟩) (by simp) (.slice (some ⟨g5, 0, none⟩) (N + 1) c5))
        have hbw5 := Lib.hid ((hbw.out.trans (hB5.mono (by omega))).setCell (p := ⟨w.heap.size + 1 + 1, 0, none⟩) (by show w.heap.size ≤ w.heap.size + 1 + 1; omega) (.slice (some ⟨g5, 0, none⟩) (N + 1) c5))
        clear hown hown' hgrow hB5 hb5
        repeat (first | ((with_reducible refine wpD_p (fun K hK => ?_)); go_simp; refine hK _ ?_; clear hK K) | ((with_reducible refine wpD_q (fun K hK => ?_)); go_simp; (first | refine hK _ ?_ | (go_bits; refine hK _ ?_) | (go_bits; go_simp; refine hK _ ?_)); clear hK K))
        with_reducible refine wpD_b (fun K hK => ?_)
        go_simp
        refine hK _ _ ?_
        clear hK K
        with_reducible refine wpD_nil ?_
        go_wp2_with fail
        go_roundg (q - (i + 1))
        case measure => omega
        case rel => exact ⟨i + 1, N + 1, _, _, c5, by omega, by go_num, rfl, Lib.hid (by simp; omega), Lib.hid (by rw [hnx.out, List.length_append, ← hN.out]; rfl), by omega, hO5, hbw5, by go_simp, by go_simp, by go_simp, by go_simp, by go_simp, by go_simp, by go_simp⟩
      · obtain rfl : i = j0 := hij
        obtain rfl : false = b := by rw [hb.out]; exact (decide_eq_false (by omega)).symm
        have hl0 := Lib.hid (hhiH.out d hdH.out)
        have hnx := Lib.hid (putR_eq (e := e0) hdH.out)
        go_wp2_with fail
        refine wp_region_ord [(0, .q), (1, .q), (2, .q), (3, .q), (4, .q), (5, .q), (6, .q), (7, .q), (8, .q), (9, .q), (10, .q), (11, .q), (12, .g), (13, .q)] (by kernel_rfl) (by kernel_rfl) ?_
        simp only [pick, List.filterMap_cons, List.filterMap_nil, List.getElem?_toArray, List.getElem?_cons_zero, List.getElem?_cons_succ, Option.map_some]
        repeat (first
          | ((with_reducible refine wpD_p (fun K hK => ?_)); go_simp; refine hK _ ?_; clear hK K)
          | ((with_reducible refine wpD_q (fun K hK => ?_)); go_simp; (first | refine hK _ ?_ | (go_bits; refine hK _ ?_) | (go_bits; go_simp; refine hK _ ?_)); clear hK K)
          | ((with_reducible refine wpD_g (fun K hK => ?_)); go_simp; refine hK _ _ ?_; clear hK K)
          | ((with_reducible refine wpD_g (fun K hK => ?_)); go_simp; refine ⟨Grew.of_alloc _, hK _ _ ?_⟩; clear hK K)
          | ((with_reducible refine wpD_g (fun K hK => ?_)); go_simp; refine ⟨Below.refl _ _, hK _ _ ?_⟩; clear hK K)
          | ((with_reducible refine wpD_g (fun K hK => ?_)); go_simp; go_at_call 94; refine (sLessPoint_at hl0.out).mono ?_; rintro e w2 ⟨rfl, hbw2⟩; refine ⟨_, rfl, hbw2, hK _ _ ?_⟩; clear hK K; obtain ⟨chbw2, fhbw2, shbw2, thbw2⟩ := bcell hbw2))
        with_reducible refine wpD_nil ?_
        have hB2 : Below wr.heap.size wr w2 := (by exact bel_)
        replace g0 := (hB2.cell (p := ⟨bA, oA + i * 3, none⟩) hbA).trans g0
        replace g1 := (hB2.cell (p := ⟨bA, oA + i * 3 + 1, none⟩) hbA).trans g1
        replace g2 := (hB2.cell (p := ⟨bA, oA + i * 3 + 2, none⟩) hbA).trans g2
        replace hbA := Nat.lt_of_lt_of_le hbA hB2.size
        replace d0 := (hB2.cell (p := ⟨w.heap.size + 1 + 1, 0, none⟩) hsz).trans d0
        replace df := (hB2.frozen (p := ⟨w.heap.size + 1 + 1, 0, none⟩) hsz).trans df
        replace r0 := (hB2.cell (p := ⟨w.heap.size + 1, 0, none⟩) l2).trans r0
        replace rf := (hB2.frozen (p := ⟨w.heap.size + 1, 0, none⟩) l2).trans rf
        replace p0 := (hB2.cell (p := ⟨w.heap.size, 0, none⟩) l0).trans p0
        replace p1 := (hB2.cell (p := ⟨w.heap.size, 1, none⟩) l0).trans p1
        replace a1 := (hB2.cell (p := ⟨p, op, none⟩) l1).trans a1
        replace hO := Lib.hid (ownsRow_below hO.out hB2)
        replace hbw := Lib.hid (hbw.out.trans (hB2.mono hsw))
        replace hsz := Nat.lt_of_lt_of_le hsz hB2.size
        replace l1 := Nat.lt_of_lt_of_le l1 hB2.size
        replace l0 := Nat.lt_of_lt_of_le l0 hB2.size
        replace l2 := Nat.lt_of_lt_of_le l2 hB2.size
        replace hsw := Nat.le_trans hsw hB2.size
        have hsb : w.heap.size + 3 ≤ w2.heap.size := by omega
        clear hB2 hbw2 chbw2 fhbw2 shbw2 thbw2
        have hns : Hid (∀ j u, [Value.int .i64 x, .int .i64 y, .int .i64 t][j]? = some u → (w2.alloc (Obj.cells #[.int .i64 x, .int .i64 y, .int .i64 t] 108)).cell? ((⟨w2.heap.size, 0, none⟩ : Addr).add j) = some u) := Lib.hid (cell_three_newA w2 _ _ _ _)
        go_wp2_with (at_builtin; go_loud (refine wpList_append_own _ rfl _ _ 38 rfl (w.heap.size + 3) 108 i0 (.agg #[.int .i64 0, .int .i64 0, .int .i64 0]) 3 24 Tryz.underlying38 hi0 hz0 hz1 hz2 rfl (by decide) _ N (plCells (putR ys e0 i i)) rfl (hO.out.alloc _) ⟨w2.heap.size, 0, none⟩ 1 1 [.int .i64 x, .int .i64 y, .int .i64 t] rfl rfl hns.out (fun x hx => by simp at hx; rcases hx with rfl | rfl | rfl <;> rfl) (by unfold maxLen; omega) (by omega) (by simp; omega) ?_); intro v3 w3 hown3 hgrow3 _; obtain ⟨g3, c4, rfl⟩ := ownsRow_succ hown3; have hB3 : Below (w.heap.size + 3) w2 w3 := ((Below.refl _ w2).alloc hsb _).grown hgrow3 (by simp; omega) (fun g e => (hO.out.lt g e).1); have hs3 : w.heap.size + 3 ≤ w3.heap.size := Nat.le_trans hsb hB3.size; have u0 := (hB3.cell (p := ⟨w.heap.size + 1 + 1, 0, none⟩) (by simp)).trans d0; have u1 := (hB3.frozen (p := ⟨w.heap.size + 1 + 1, 0, none⟩) (by simp)).trans df; have u2 := (hB3.cell (p := ⟨w.heap.size + 1, 0, none⟩) (by simp)).trans r0; have u3 := (hB3.frozen (p := ⟨w.heap.size + 1, 0, none⟩) (by simp)).trans rf; have u4 := (hB3.cell (p := ⟨w.heap.size, 0, none⟩) (by simp)).trans p0; have u5 := (hB3.cell (p := ⟨w.heap.size, 1, none⟩) (by simp)).trans p1; have lz3 : w.heap.size + 1 + 1 < w3.heap.size := (by omega))
        replace g0 := (hB3.cell (p := ⟨bA, oA + i * 3, none⟩) (by simp; omega)).trans g0
        replace g1 := (hB3.cell (p := ⟨bA, oA + i * 3 + 1, none⟩) (by simp; omega)).trans g1
        replace g2 := (hB3.cell (p := ⟨bA, oA + i * 3 + 2, none⟩) (by simp; omega)).trans g2
        replace a1 := (hB3.cell (p := ⟨p, op, none⟩) (by simp; omega)).trans a1
        obtain ⟨w4, hw4⟩ : ∃ W, W = w3.setCell ⟨w.heap.size + 1 + 1, 0, none⟩ (.slice (some ⟨g3, 0, none⟩) (N + 1) c4) := ⟨_, rfl⟩
        rw [← hw4]
        have hne1 : ¬ bA = w.heap.size + 1 + 1 := by omega
        have hne2 : ¬ p = w.heap.size + 1 + 1 := by omega
        replace g0 : w4.cell? ⟨bA, oA + i * 3, none⟩ = some (.int .i64 d.x) := by rw [hw4]; exact (World.cell?_setCell_other _ _ _ _ (by simp [hne1])).trans g0
        replace g1 : w4.cell? ⟨bA, oA + i * 3 + 1, none⟩ = some (.int .i64 d.y) := by rw [hw4]; exact (World.cell?_setCell_other _ _ _ _ (by simp [hne1])).trans g1
        replace g2 : w4.cell? ⟨bA, oA + i * 3 + 2, none⟩ = some (.int .i64 d.t) := by rw [hw4]; exact (World.cell?_setCell_other _ _ _ _ (by simp [hne1])).trans g2
        replace a1 : w4.cell? ⟨p, op, none⟩ = some (.slice (some ⟨bA, oA, none⟩) q ca) := by rw [hw4]; exact (World.cell?_setCell_other _ _ _ _ (by simp [hne2])).trans a1
        replace d0 : w4.cell? ⟨w.heap.size + 1 + 1, 0, none⟩ = some (.slice (some ⟨g3, 0, none⟩) (N + 1) c4) := by rw [hw4]; go_simp
        replace df : w4.frozen? ⟨w.heap.size + 1 + 1, 0, none⟩ = false := by rw [hw4]; go_simp
        replace r0 : w4.cell? ⟨w.heap.size + 1, 0, none⟩ = some (.slice none 0 0) := by rw [hw4]; go_simp
        replace rf : w4.frozen? ⟨w.heap.size + 1, 0, none⟩ = false := by rw [hw4]; go_simp
        replace p0 : w4.cell? ⟨w.heap.size, 0, none⟩ = some (.int .i64 x) := by rw [hw4]; go_simp
        replace p1 : w4.cell? ⟨w.heap.size, 1, none⟩ = some (.int .i64 y) := by rw [hw4]; go_simp
        have hs4 : w4.heap.size = w3.heap.size := by rw [hw4]; simp
        have hNi : N ≤ i := by rw [hN.out, putR_len (by have := hlqH.out; omega), if_neg (by omega)]; exact Nat.le_refl _
        have hown4 : w3.ownsRow (w.heap.size + 3) 108 3 (.slice (some ⟨g3, 0, none⟩) (N + 1) c4) (N + 1) (plCells (putR ys e0 i i ++ [e0])) := by rw [plCells_snoc, he0H.out]; rw [he0H.out] at hown3; exact hown3
        replace hO := Lib.hid (show w4.ownsRow (w.heap.size + 3) 108 3 (.slice (some ⟨g3, 0, none⟩) (N + 1) c4) (N + 1) (plCells (putR ys e0 i i ++ [e0])) from by rw [hw4]; exact ownsRow_setLowA hown4 (p := ⟨w.heap.size + 1 + 1, 0, none⟩) (by simp) _)
        replace hbw := Lib.hid (show Below w.heap.size w w4 from by rw [hw4]; exact (hbw.out.trans (hB3.mono (by omega))).setCell (p := ⟨w.heap.size + 1 + 1, 0, none⟩) (by show w.heap.size ≤ w.heap.size + 1 + 1; omega) _)
        replace hbA : bA < w4.heap.size := by omega
        replace hsz : w.heap.size + 1 + 1 < w4.heap.size := by omega
        replace l0 : w.heap.size < w4.heap.size := by omega
        replace l1 : p < w4.heap.size := by omega
        replace l2 : w.heap.size + 1 < w4.heap.size := by omega
        replace hsb : w.heap.size + 3 ≤ w4.heap.size := by omega
        clear hown3 hgrow3 hB3 hw4 hs3 hs4 u0 u1 u2 u3 u4 u5 lz3 hown4 hns hne1 hne2
        go_wp2_with fail
        refine wp_region_ord [(0, .q), (1, .q), (2, .q), (3, .q), (4, .q), (5, .q), (6, .q), (7, .q), (8, .q), (9, .g), (10, .b), (11, .q), (12, .b)] (by kernel_rfl) (by kernel_rfl) ?_
        simp only [pick, List.filterMap_cons, List.filterMap_nil, List.getElem?_toArray, List.getElem?_cons_zero, List.getElem?_cons_succ, Option.map_some]
        repeat (first | ((with_reducible refine wpD_p (fun K hK => ?_)); go_simp; refine hK _ ?_; clear hK K) | ((with_reducible refine wpD_q (fun K hK => ?_)); go_simp; (first | refine hK _ ?_ | (go_bits; refine hK _ ?_) | (go_bits; go_simp; refine hK _ ?_)); clear hK K))
        with_reducible refine wpD_g (fun K hK => ?_)
        go_simp
        refine ⟨Grew.of_alloc _, hK _ _ ?_⟩
        clear hK K
        have hb5 : Hid (Below w4.heap.size w4 (w4.alloc (Obj.cells #[.int .i64 d.x, .int .i64 d.y, .int .i64 d.t] 108)).drew) := Lib.hid (by exact bel_)
        refine wpD_append rfl _ _ 38 rfl (w.heap.size + 3) 108 i0 (.agg #[.int .i64 0, .int .i64 0, .int .i64 0]) 3 24 Tryz.underlying38 hi0 hz0 hz1 hz2 rfl (by decide) _ (N + 1) (plCells (putR ys e0 i i ++ [e0])) (by go_simp) (ownsRow_below hO.out hb5.out) ⟨w4.heap.size, 0, none⟩ 1 1 [.int .i64 d.x, .int .i64 d.y, .int .i64 d.t] (by go_simp) rfl ?hnews (fun x hx => by simp at hx; rcases hx with rfl | rfl | rfl <;> rfl) (by unfold maxLen; omega) (by omega) (by simp; omega) ?_
        case hnews =>
          have := cell_three_newA w4 (.int .i64 d.x) (.int .i64 d.y) (.int .i64 d.t) 108
          simpa using this
        intro v5 w5 hown hgrow
        obtain ⟨g5, c5, rfl⟩ := ownsRow_succ hown
        have hB5 : Below (w.heap.size + 3) w4 w5 := (hb5.out.mono hsb).grown hgrow (by simp; omega) (fun g e => (hO.out.lt g e).1)
        have hs5 : w.heap.size + 3 ≤ w5.heap.size := Nat.le_trans hsb hB5.size
        replace d0 := (hB5.cell (p := ⟨w.heap.size + 1 + 1, 0, none⟩) (by simp)).trans d0
        replace df := (hB5.frozen (p := ⟨w.heap.size + 1 + 1, 0, none⟩) (by simp)).trans df
        replace r0 := (hB5.cell (p := ⟨w.heap.size + 1, 0, none⟩) (by simp)).trans r0
        replace rf := (hB5.frozen (p := ⟨w.heap.size + 1, 0, none⟩) (by simp)).trans rf
        replace p0 := (hB5.cell (p := ⟨w.heap.size, 0, none⟩) (by simp)).trans p0
        replace p1 := (hB5.cell (p := ⟨w.heap.size, 1, none⟩) (by simp)).trans p1
        have lz : w.heap.size + 1 + 1 < w5.heap.size := by omega
        have hown' : w5.ownsRow (w.heap.size + 3) 108 3 (.slice (some ⟨g5, 0, none⟩) ((N + 1) + 1) c5) ((N + 1) + 1) (plCells (putR ys e0 i (i + 1))) := by rw [hnx.out, plCells_snoc]; exact hown
        have hO5 := Lib.hid (ownsRow_setLowA (base := w.heap.size + 3) hown' (p := ⟨w.heap.size + 1 + 1, 0, none⟩) (by simp) (.slice (some ⟨g5, 0, none⟩) ((N + 1) + 1) c5))
        have hbw5 := Lib.hid ((hbw.out.trans (hB5.mono (by omega))).setCell (p := ⟨w.heap.size + 1 + 1, 0, none⟩) (by show w.heap.size ≤ w.heap.size + 1 + 1; omega) (.slice (some ⟨g5, 0, none⟩) ((N + 1) + 1) c5))
        clear hown hown' hgrow hB5 hb5
        repeat (first | ((with_reducible refine wpD_p (fun K hK => ?_)); go_simp; refine hK _ ?_; clear hK K) | ((with_reducible refine wpD_q (fun K hK => ?_)); go_simp; (first | refine hK _ ?_ | (go_bits; refine hK _ ?_) | (go_bits; go_simp; refine hK _ ?_)); clear hK K))
        with_reducible refine wpD_b (fun K hK => ?_)
        go_simp
        refine hK _ _ ?_
        clear hK K
        with_reducible refine wpD_nil ?_
        go_wp2_with fail
        go_roundg (q - (i + 1))
        case measure => omega
        case rel => exact ⟨i + 1, (N + 1) + 1, _, _, c5, by omega, by go_num, rfl, Lib.hid (by simp), Lib.hid (by rw [hnx.out, List.length_append, List.length_append, ← hN.out]; rfl), by omega, hO5, hbw5, by go_simp, by go_simp, by go_simp, by go_simp, by go_simp, by go_simp, by go_simp⟩
      · obtain rfl : true = b := by rw [hb.out]; exact (decide_eq_true (by omega)).symm
        have hnx := Lib.hid (putR_gt (e := e0) hij hdH.out)
        go_wp2_with fail
        refine wp_region_ord [(0, .q), (1, .q), (2, .q), (3, .q), (4, .q), (5, .q), (6, .q), (7, .q), (8, .q), (9, .q), (10, .q), (11, .q), (12, .g), (13, .q)] (by kernel_rfl) (by kernel_rfl) ?_
        simp only [pick, List.filterMap_cons, List.filterMap_nil, List.getElem?_toArray, List.getElem?_cons_zero, List.getElem?_cons_succ, Option.map_some]
        repeat (first
          | ((with_reducible refine wpD_p (fun K hK => ?_)); go_simp; refine hK _ ?_; clear hK K)
          | ((with_reducible refine wpD_q (fun K hK => ?_)); go_simp; (first | refine hK _ ?_ | (go_bits; refine hK _ ?_) | (go_bits; go_simp; refine hK _ ?_)); clear hK K)
          | ((with_reducible refine wpD_g (fun K hK => ?_)); go_simp; refine hK _ _ ?_; clear hK K)
          | ((with_reducible refine wpD_g (fun K hK => ?_)); go_simp; refine ⟨Grew.of_alloc _, hK _ _ ?_⟩; clear hK K)
          | ((with_reducible refine wpD_g (fun K hK => ?_)); go_simp; refine ⟨Below.refl _ _, hK _ _ ?_⟩; clear hK K))
        with_reducible refine wpD_nil ?_
        obtain ⟨w2, hw2⟩ : ∃ W, W = wr.drew := ⟨_, rfl⟩
        rw [← hw2]
        have hB2 : Below wr.heap.size wr w2 := (by rw [hw2]; exact Below.drew (Below.refl _ _))
        replace g0 := (hB2.cell (p := ⟨bA, oA + i * 3, none⟩) hbA).trans g0
        replace g1 := (hB2.cell (p := ⟨bA, oA + i * 3 + 1, none⟩) hbA).trans g1
        replace g2 := (hB2.cell (p := ⟨bA, oA + i * 3 + 2, none⟩) hbA).trans g2
        replace hbA := Nat.lt_of_lt_of_le hbA hB2.size
        replace d0 := (hB2.cell (p := ⟨w.heap.size + 1 + 1, 0, none⟩) hsz).trans d0
        replace df := (hB2.frozen (p := ⟨w.heap.size + 1 + 1, 0, none⟩) hsz).trans df
        replace r0 := (hB2.cell (p := ⟨w.heap.size + 1, 0, none⟩) l2).trans r0
        replace rf := (hB2.frozen (p := ⟨w.heap.size + 1, 0, none⟩) l2).trans rf
        replace p0 := (hB2.cell (p := ⟨w.heap.size, 0, none⟩) l0).trans p0
        replace p1 := (hB2.cell (p := ⟨w.heap.size, 1, none⟩) l0).trans p1
        replace a1 := (hB2.cell (p := ⟨p, op, none⟩) l1).trans a1
        replace hO := Lib.hid (ownsRow_below hO.out hB2)
        replace hbw := Lib.hid (hbw.out.trans (hB2.mono hsw))
        replace hsz := Nat.lt_of_lt_of_le hsz hB2.size
        replace l1 := Nat.lt_of_lt_of_le l1 hB2.size
        replace l0 := Nat.lt_of_lt_of_le l0 hB2.size
        replace l2 := Nat.lt_of_lt_of_le l2 hB2.size
        replace hsw := Nat.le_trans hsw hB2.size
        have hsb : w.heap.size + 3 ≤ w2.heap.size := by omega
        clear hB2 hw2
        go_wp2_with fail
        refine wp_region_ord [(0, .q), (1, .q), (2, .q), (3, .q), (4, .q), (5, .q), (6, .q), (7, .q), (8, .q), (9, .g), (10, .b), (11, .q), (12, .b)] (by kernel_rfl) (by kernel_rfl) ?_
        simp only [pick, List.filterMap_cons, List.filterMap_nil, List.getElem?_toArray, List.getElem?_cons_zero, List.getElem?_cons_succ, Option.map_some]
        repeat (first | ((with_reducible refine wpD_p (fun K hK => ?_)); go_simp; refine hK _ ?_; clear hK K) | ((with_reducible refine wpD_q (fun K hK => ?_)); go_simp; (first | refine hK _ ?_ | (go_bits; refine hK _ ?_) | (go_bits; go_simp; refine hK _ ?_)); clear hK K))
        with_reducible refine wpD_g (fun K hK => ?_)
        go_simp
        refine ⟨Grew.of_alloc _, hK _ _ ?_⟩
        clear hK K
        have hb5 : Hid (Below w2.heap.size w2 (w2.alloc (Obj.cells #[.int .i64 d.x, .int .i64 d.y, .int .i64 d.t] 108)).drew) := Lib.hid (by exact bel_)
        refine wpD_append rfl _ _ 38 rfl (w.heap.size + 3) 108 i0 (.agg #[.int .i64 0, .int .i64 0, .int .i64 0]) 3 24 Tryz.underlying38 hi0 hz0 hz1 hz2 rfl (by decide) _ N (plCells (putR ys e0 j0 i)) (by go_simp) (ownsRow_below hO.out hb5.out) ⟨w2.heap.size, 0, none⟩ 1 1 [.int .i64 d.x, .int .i64 d.y, .int .i64 d.t] (by go_simp) rfl ?hnews (fun x hx => by simp at hx; rcases hx with rfl | rfl | rfl <;> rfl) (by unfold maxLen; omega) (by omega) (by simp; omega) ?_
        case hnews =>
          have := cell_three_newA w2 (.int .i64 d.x) (.int .i64 d.y) (.int .i64 d.t) 108
          simpa using this
        intro v5 w5 hown hgrow
        obtain ⟨g5, c5, rfl⟩ := ownsRow_succ hown
        have hB5 : Below (w.heap.size + 3) w2 w5 := (hb5.out.mono hsb).grown hgrow (by simp; omega) (fun g e => (hO.out.lt g e).1)
        have hs5 : w.heap.size + 3 ≤ w5.heap.size := Nat.le_trans hsb hB5.size
        replace d0 := (hB5.cell (p := ⟨w.heap.size + 1 + 1, 0, none⟩) (by simp)).trans d0
        replace df := (hB5.frozen (p := ⟨w.heap.size + 1 + 1, 0, none⟩) (by simp)).trans df
        replace r0 := (hB5.cell (p := ⟨w.heap.size + 1, 0, none⟩) (by simp)).trans r0
        replace rf := (hB5.frozen (p := ⟨w.heap.size + 1, 0, none⟩) (by simp)).trans rf
        replace p0 := (hB5.cell (p := ⟨w.heap.size, 0, none⟩) (by simp)).trans p0
        replace p1 := (hB5.cell (p := ⟨w.heap.size, 1, none⟩) (by simp)).trans p1
        have lz : w.heap.size + 1 + 1 < w5.heap.size := by omega
        have hown' : w5.ownsRow (w.heap.size + 3) 108 3 (.slice (some ⟨g5, 0, none⟩) (N + 1) c5) (N + 1) (plCells (putR ys e0 j0 (i + 1))) := by rw [hnx.out, plCells_snoc]; exact hown
        have hO5 := Lib.hid (ownsRow_setLowA (base := w.heap.size + 3) hown' (p := ⟨w.heap.size + 1 + 1, 0, none⟩) (by simp) (.slice (some ⟨g5, 0, none⟩) (N + 1) c5))
        have hbw5 := Lib.hid ((hbw.out.trans (hB5.mono (by omega))).setCell (p := ⟨w.heap.size + 1 + 1, 0, none⟩) (by show w.heap.size ≤ w.heap.size + 1 + 1; omega) (.slice (some ⟨g5, 0, none⟩) (N + 1) c5))
        clear hown hown' hgrow hB5 hb5
        repeat (first | ((with_reducible refine wpD_p (fun K hK => ?_)); go_simp; refine hK _ ?_; clear hK K) | ((with_reducible refine wpD_q (fun K hK => ?_)); go_simp; (first | refine hK _ ?_ | (go_bits; refine hK _ ?_) | (go_bits; go_simp; refine hK _ ?_)); clear hK K))
        with_reducible refine wpD_b (fun K hK => ?_)
        go_simp
        refine hK _ _ ?_
        clear hK K
        with_reducible refine wpD_nil ?_
        go_wp2_with fail
        go_roundg (q - (i + 1))
        case measure => omega
        case rel => exact ⟨i + 1, N + 1, _, _, c5, by omega, by go_num, rfl, Lib.hid (by simp; omega), Lib.hid (by rw [hnx.out, List.length_append, ← hN.out]; rfl), by omega, hO5, hbw5, by go_simp, by go_simp, by go_simp, by go_simp, by go_simp, by go_simp, by go_simp⟩
    · obtain rfl : q = i := by omega
      have hend := hlqH.out
      by_cases hjq : j0 < q
      · obtain rfl : true = b := by rw [hb.out]; exact (decide_eq_true hjq).symm
        have hfin := putR_end (ys := ys) (e := e0) (j0 := j0) (by omega)
        rw [hend] at hfin
        have hfinH := Lib.hid hfin
        clear hfin
        go_wp2_with fail
        refine bodyPost_ret (v := .agg #[.slice A3 N c3]) (by simp only [results, Tryz.results74]; go_simp) rfl ?_
        refine ⟨_, rfl, ?_, hbw.out.setCell (p := ⟨w.heap.size + 1, 0, none⟩) (by show w.heap.size ≤ w.heap.size + 1; omega) _⟩
        rw [← hfinH.out, ← hN.out]
        exact ownsRow_lowA (ownsRow_setLowA hO.out (p := ⟨w.heap.size + 1, 0, none⟩) (by simp) _) (by omega)
      · obtain rfl : false = b := by rw [hb.out]; exact (decide_eq_false hjq).symm
        have hfin := putR_end2 (ys := ys) (e := e0) (j0 := j0) (by omega)
        rw [hend] at hfin
        have hfinH := Lib.hid hfin
        clear hfin
        have hsb : w.heap.size + 3 ≤ wr.heap.size := by omega
        have hns : Hid (∀ j u, [Value.int .i64 x, .int .i64 y, .int .i64 t][j]? = some u → (wr.alloc (Obj.cells #[.int .i64 x, .int .i64 y, .int .i64 t] 108)).cell? ((⟨wr.heap.size, 0, none⟩ : Addr).add j) = some u) := Lib.hid (cell_three_newA wr _ _ _ _)
        go_wp2_with (at_builtin; go_loud (refine wpList_append_own _ rfl _ _ 38 rfl (w.heap.size + 3) 108 i0 (.agg #[.int .i64 0, .int .i64 0, .int .i64 0]) 3 24 Tryz.underlying38 hi0 hz0 hz1 hz2 rfl (by decide) _ N (plCells (putR ys e0 j0 q)) rfl (hO.out.alloc _) ⟨wr.heap.size, 0, none⟩ 1 1 [.int .i64 x, .int .i64 y, .int .i64 t] rfl rfl hns.out (fun x hx => by simp at hx; rcases hx with rfl | rfl | rfl <;> rfl) (by unfold maxLen; omega) (by omega) (by simp; omega) ?_); intro v3 w3 hown3 hgrow3 _; obtain ⟨g3, c4, rfl⟩ := ownsRow_succ hown3; have hB3 : Below (w.heap.size + 3) wr w3 := ((Below.refl _ wr).alloc hsb _).grown hgrow3 (by simp; omega) (fun g e => (hO.out.lt g e).1); have hs3 : w.heap.size + 3 ≤ w3.heap.size := Nat.le_trans hsb hB3.size; have u0 := (hB3.cell (p := ⟨w.heap.size + 1 + 1, 0, none⟩) (by simp)).trans d0; have u1 := (hB3.frozen (p := ⟨w.heap.size + 1 + 1, 0, none⟩) (by simp)).trans df; have u2 := (hB3.cell (p := ⟨w.heap.size + 1, 0, none⟩) (by simp)).trans r0; have u3 := (hB3.frozen (p := ⟨w.heap.size + 1, 0, none⟩) (by simp)).trans rf; have u4 := (hB3.cell (p := ⟨w.heap.size, 0, none⟩) (by simp)).trans p0; have u5 := (hB3.cell (p := ⟨w.heap.size, 1, none⟩) (by simp)).trans p1; have lz3 : w.heap.size + 1 + 1 < w3.heap.size := (by omega); have lz4 : w.heap.size + 1 < w3.heap.size := (by omega))
        refine bodyPost_ret (v := .agg #[.slice (some ⟨g3, 0, none⟩) (N + 1) c4]) (by simp only [results, Tryz.results74]; go_simp) rfl ?_
        refine ⟨_, rfl, ?_, ((hbw.out.trans (hB3.mono (by omega))).setCell (p := ⟨w.heap.size + 1 + 1, 0, none⟩) (by show w.heap.size ≤ w.heap.size + 1 + 1; omega) _).setCell (p := ⟨w.heap.size + 1, 0, none⟩) (by show w.heap.size ≤ w.heap.size + 1; omega) _⟩
        have hown4 : w3.ownsRow (w.heap.size + 3) 108 3 (.slice (some ⟨g3, 0, none⟩) (N + 1) c4) (N + 1) (plCells (putR ys e0 j0 q ++ [e0])) := by rw [plCells_snoc, he0H.out]; rw [he0H.out] at hown3; exact hown3
        rw [← hfinH.out, List.length_append, ← hN.out]
        exact ownsRow_lowA (ownsRow_setLowA (ownsRow_setLowA hown4 (p := ⟨w.heap.size + 1 + 1, 0, none⟩) (by simp) _) (p := ⟨w.heap.size + 1, 0, none⟩) (by simp) _) (by omega)
end Go.Proofs.YthieodccakphiaaGreat
/- Walks: Attach, by the reference. -/




namespace Go.Proofs.YthieodccakphiaaGreat
open Go.RowKit Go.Shelf
attribute [local go_sem] BelowBy.cell BelowBy.cell_drew stillUpon givesUpon BelowBy.cell_drew2 BelowBy.cell_drew3

theorem l01Point_atA {x y : Int} {w : World} {b : Bool} (h : validPt x y = b) :
    Calls Tryz.prog 70 #[.agg #[.int .i64 x, .int .i64 y]] w fun e w' => e = .returned (.bool b) ∧ Below w.heap.size w w' := h ▸ l01Point_any x y w
theorem l02Index_atA {p op : Nat} {gs : List Gl} {ts : List Ti} {t : Int} {w : World} (h : SetAt w p op gs ts) (hm : ts.length ≤ 9223372036854775807) {b : Bool} (hb : inB t 0 ((ts.length : Int) - 1) = b) :
    Calls Tryz.prog 71 #[.pointer (some ⟨p, op, none⟩), .int .i64 t] w fun e w' => e = .returned (.bool b) ∧ Below w.heap.size w w' := by
  subst hb
  refine (l02Index_any p gs ts t w h hm).mono ?_
  rintro e _ ⟨rfl, rfl⟩
  exact ⟨rfl, Below.refl _ _⟩
section
variable {gs : List Gl} {ts : List Ti} {ys : List Pl} {te x y t r : Int} {b : Bool}
theorem canB_pt (h : validPt x y = false) (hb : canB gs ts ys te x y t = b) : false = b := by rw [← hb]; unfold canB fitB; rw [h]; simp
theorem canB_ti (h : inB t 0 ((ts.length : Int) - 1) = false) (hb : canB gs ts ys te x y t = b) : false = b := by rw [← hb]; unfold canB; rw [h]; rfl
theorem canB_on (hV : Valid gs ts ys) (hr : placeI ys x y = r) (h : ¬ r < 0) (hb : canB gs ts ys te x y t = b) : false = b := by
  rw [← hb]; unfold canB fitB
  rw [decide_eq_false (fun h2 => h (by rw [← hr]; exact (at_placeA hV x y).1 h2))]; simp
theorem canB_off (hV : Valid gs ts ys) (h1 : validPt x y = true) (h2 : inB t 0 ((ts.length : Int) - 1) = true) (hr : placeI ys x y = r) (h : r < 0) {k : Nat} (hk : t = k) {v : Int} (hv : bindN gs ts ys x y k 4 = v) (hb : canB gs ts ys te x y t = b) : decide (te ≤ v) = b := by
  rw [← hb]; unfold canB fitB
  rw [h1, h2, decide_eq_true ((at_placeA hV x y).2 (by rw [hr]; exact h)), hk]
  simp [hv]
end
set_option maxRecDepth 100000 in
set_option maxHeartbeats 4000000 in
theorem l08Can_any {p pa oa : Nat} {gs : List Gl} {ts : List Ti} {xs ys : List Pl} {te x y t : Int} {w : World} (hS0 : SysAt w p 0 gs ts xs te) (hA0 : AsmAt w pa oa ys) (hV : Valid gs ts ys) {b : Bool} (hb : canB gs ts ys te x y t = b) :
    Calls Tryz.prog 36 #[.pointer (some ⟨p, 0, none⟩), .pointer (some ⟨pa, oa, none⟩), .agg #[.int .i64 x, .int .i64 y, .int .i64 t]] w fun e w' => e = .returned (.bool b) ∧ Below w.heap.size w w' := by
  
  have lp : p < w.heap.size := hS0.sat.s.lt
  have lp' : p ≤ w.heap.size := Nat.le_of_lt lp
  have ct : w.cell? ⟨p, 3, none⟩ = some (.int .i64 te) := hS0.temp
  have htl := hV.tl
  have htm : ts.length ≤ 9223372036854775807 := by omega
  have hS := Lib.hid hS0.sat.s
  have hA := Lib.hid hA0
  have hbH := Lib.hid hb
  clear hS0 hA0 hb htl
  cases hv : validPt x y
  · have hvH := Lib.hid hv
    have hres := Lib.hid (canB_pt hv hbH.out)
    clear hv
    go_enter Tryz.func36, Tryz.ntmps36
    go_wp2
    refine wp_region_ord [(0, .q), (1, .q), (2, .g), (3, .q), (4, .q), (5, .q), (6, .q), (7, .q), (8, .q), (9, .g), (10, .q), (11, .q), (12, .q), (13, .q), (14, .q), (15, .g), (16, .q), (17, .q), (18, .q), (19, .q), (20, .q), (21, .q), (22, .q), (23, .q), (24, .q), (25, .q), (26, .q), (28, .q), (29, .q), (30, .q), (31, .q), (27, .g), (32, .q), (33, .q), (34, .q)] (by kernel_rfl) (by kernel_rfl) ?_
    simp only [pick, List.filterMap_cons, List.filterMap_nil, List.getElem?_toArray, List.getElem?_cons_zero, List.getElem?_cons_succ, Option.map_some]
    repeat (first
      | ((with_reducible refine wpD_p (fun K hK => ?_)); go_simp; refine hK _ ?_; clear hK K)
      | ((with_reducible refine wpD_q (fun K hK => ?_)); go_simp; (first | refine hK _ ?_ | (go_bits; refine hK _ ?_) | (go_bits; go_simp; refine hK _ ?_)); clear hK K)
      | ((with_reducible refine wpD_g (fun K hK => ?_)); go_simp; refine hK _ _ ?_; clear hK K)
      | ((with_reducible refine wpD_g (fun K hK => ?_)); go_simp; refine ⟨Grew.of_alloc _, hK _ _ ?_⟩; clear hK K)
      | ((with_reducible refine wpD_g (fun K hK => ?_)); go_simp; refine ⟨Below.refl _ _, hK _ _ ?_⟩; clear hK K)
      | ((with_reducible refine wpD_g (fun K hK => ?_)); go_simp; go_at_call 70; refine (l01Point_atA hvH.out).mono ?_; rintro e w1 ⟨rfl, hb1⟩; refine ⟨_, rfl, hb1, hK _ _ ?_⟩; clear hK K; obtain ⟨chb1, fhb1, shb1, thb1⟩ := bcell hb1; (try have bhb10 := shb1 (w.heap.size) (by go_simp)); (try have bhb11 := shb1 (p) (by go_simp))))
    with_reducible refine wpD_nil ?_
    go_wp2
    go_ret
    exact ⟨ret_bool hres.out, by exact bel_⟩
  · cases hi : inB t 0 ((ts.length : Int) - 1)
    · have hvH := Lib.hid hv
      have hiH := Lib.hid hi
      have hres := Lib.hid (canB_ti hi hbH.out)
      clear hv hi
      go_enter Tryz.func36, Tryz.ntmps36
      go_wp2
      refine wp_region_ord [(0, .q), (1, .q), (2, .g), (3, .q), (4, .q), (5, .q), (6, .q), (7, .q), (8, .q), (9, .g), (10, .q), (11, .q), (12, .q), (13, .q), (14, .q), (15, .g), (16, .q), (17, .q), (18, .q), (19, .q), (20, .q), (21, .q), (22, .q), (23, .q), (24, .q), (25, .q), (26, .q), (28, .q), (29, .q), (30, .q), (31, .q), (27, .g), (32, .q), (33, .q), (34, .q)] (by kernel_rfl) (by kernel_rfl) ?_
      simp only [pick, List.filterMap_cons, List.filterMap_nil, List.getElem?_toArray, List.getElem?_cons_zero, List.getElem?_cons_succ, Option.map_some]
      repeat (first
        | ((with_reducible refine wpD_p (fun K hK => ?_)); go_simp; refine hK _ ?_; clear hK K)
        | ((with_reducible refine wpD_q (fun K hK => ?_)); go_simp; (first | refine hK _ ?_ | (go_bits; refine hK _ ?_) | (go_bits; go_simp; refine hK _ ?_)); clear hK K)
        | ((with_reducible refine wpD_g (fun K hK => ?_)); go_simp; refine hK _ _ ?_; clear hK K)
        | ((with_reducible refine wpD_g (fun K hK => ?_)); go_simp; refine ⟨Grew.of_alloc _, hK _ _ ?_⟩; clear hK K)
        | ((with_reducible refine wpD_g (fun K hK => ?_)); go_simp; refine ⟨Below.refl _ _, hK _ _ ?_⟩; clear hK K)
        | ((with_reducible refine wpD_g (fun K hK => ?_)); go_simp; go_at_call 70; refine (l01Point_atA hvH.out).mono ?_; rintro e w1 ⟨rfl, hb1⟩; refine ⟨_, rfl, hb1, hK _ _ ?_⟩; clear hK K; obtain ⟨chb1, fhb1, shb1, thb1⟩ := bcell hb1; (try have bhb10 := shb1 (w.heap.size) (by go_simp)); (try have bhb11 := shb1 (p) (by go_simp)))
        | ((with_reducible refine wpD_g (fun K hK => ?_)); go_simp; go_at_call 71; refine (l02Index_atA (hS.out.below (by exact bel_)) htm hiH.out).mono ?_; rintro e w2 ⟨rfl, hb2⟩; refine ⟨_, rfl, hb2, hK _ _ ?_⟩; clear hK K; obtain ⟨chb2, fhb2, shb2, thb2⟩ := bcell hb2; (try have bhb20 := shb2 (w.heap.size) (by go_simp)); (try have bhb21 := shb2 (p) (by go_simp))))
      with_reducible refine wpD_nil ?_
      go_wp2
      go_ret
      exact ⟨ret_bool hres.out, by exact bel_⟩
    · obtain ⟨r, hr⟩ : ∃ r, placeI ys x y = r := ⟨_, rfl⟩
      obtain ⟨k, hk, hkl⟩ := inB_nat hi
      obtain ⟨v, hvv⟩ : ∃ v, bindN gs ts ys x y k 4 = v := ⟨_, rfl⟩
      have hvH := Lib.hid hv
      have hiH := Lib.hid hi
      have hrH := Lib.hid hr
      have hkH := Lib.hid hk
      have hvvH := Lib.hid hvv
      have hbd := Lib.hid (validPt_bd hv)
      by_cases h0 : r < 0
      · have hres := Lib.hid (canB_off hV hv hi hr h0 hk hvv hbH.out)
        clear hv hi hr hk hvv
        go_enter Tryz.func36, Tryz.ntmps36
        go_wp2
        refine wp_region_ord [(0, .q), (1, .q), (2, .g), (3, .q), (4, .q), (5, .q), (6, .q), (7, .q), (8, .q), (9, .g), (10, .q), (11, .q), (12, .q), (13, .q), (14, .q), (15, .g), (16, .q), (17, .q), (18, .q), (19, .q), (20, .q), (21, .q), (22, .q), (23, .q), (24, .q), (25, .q), (26, .q), (28, .q), (29, .q), (30, .q), (31, .q), (27, .g), (32, .q), (33, .q), (34, .q)] (by kernel_rfl) (by kernel_rfl) ?_
        simp only [pick, List.filterMap_cons, List.filterMap_nil, List.getElem?_toArray, List.getElem?_cons_zero, List.getElem?_cons_succ, Option.map_some]
        repeat (first
          | ((with_reducible refine wpD_p (fun K hK => ?_)); go_simp; refine hK _ ?_; clear hK K)
          | ((with_reducible refine wpD_q (fun K hK => ?_)); go_simp; (first | refine hK _ ?_ | (go_bits; refine hK _ ?_) | (go_bits; go_simp; refine hK _ ?_)); clear hK K)
          | ((with_reducible refine wpD_g (fun K hK => ?_)); go_simp; refine hK _ _ ?_; clear hK K)
          | ((with_reducible refine wpD_g (fun K hK => ?_)); go_simp; refine ⟨Grew.of_alloc _, hK _ _ ?_⟩; clear hK K)
          | ((with_reducible refine wpD_g (fun K hK => ?_)); go_simp; refine ⟨Below.refl _ _, hK _ _ ?_⟩; clear hK K)
          | ((with_reducible refine wpD_g (fun K hK => ?_)); go_simp; go_at_call 70; refine (l01Point_atA hvH.out).mono ?_; rintro e w1 ⟨rfl, hb1⟩; refine ⟨_, rfl, hb1, hK _ _ ?_⟩; clear hK K; obtain ⟨chb1, fhb1, shb1, thb1⟩ := bcell hb1; (try have bhb10 := shb1 (w.heap.size) (by go_simp)); (try have bhb11 := shb1 (p) (by go_simp)))
          | ((with_reducible refine wpD_g (fun K hK => ?_)); go_simp; go_at_call 71; refine (l02Index_atA (hS.out.below (by exact bel_)) htm hiH.out).mono ?_; rintro e w2 ⟨rfl, hb2⟩; refine ⟨_, rfl, hb2, hK _ _ ?_⟩; clear hK K; obtain ⟨chb2, fhb2, shb2, thb2⟩ := bcell hb2; (try have bhb20 := shb2 (w.heap.size) (by go_simp)); (try have bhb21 := shb2 (p) (by go_simp)))
          | ((with_reducible refine wpD_g (fun K hK => ?_)); go_simp; go_at_call 72; refine (l03Index_at (hA.out.below (by exact bel_)) hV hrH.out).mono ?_; rintro e w3 ⟨rfl, hb3⟩; refine ⟨_, rfl, hb3, hK _ _ ?_⟩; clear hK K; obtain ⟨chb3, fhb3, shb3, thb3⟩ := bcell hb3; (try have bhb30 := shb3 (w.heap.size) (by go_simp)); (try have bhb31 := shb3 (p) (by go_simp)))
          | ((with_reducible refine wpD_g (fun K hK => ?_)); go_simp; go_at_call 73; refine (l06Binding_at k hkH.out (hS.out.below (by exact bel_)) (hA.out.below (by exact bel_)) hV hkl hbd.out.1 hbd.out.2 hvvH.out).mono ?_; rintro e w4 ⟨rfl, hb4⟩; refine ⟨_, rfl, hb4, hK _ _ ?_⟩; clear hK K; obtain ⟨chb4, fhb4, shb4, thb4⟩ := bcell hb4; (try have bhb40 := shb4 (w.heap.size) (by go_simp)); (try have bhb41 := shb4 (p) (by go_simp))))
        with_reducible refine wpD_nil ?_
        go_wp2
        go_ret
        exact ⟨ret_bool hres.out, by exact bel_⟩
      · have hres := Lib.hid (canB_on hV hr h0 hbH.out)
        have hdf : decide (r < 0) = false := decide_eq_false h0
        clear hv hi hr hk hvv h0
        go_enter Tryz.func36, Tryz.ntmps36
        go_wp2
        refine wp_region_ord [(0, .q), (1, .q), (2, .g), (3, .q), (4, .q), (5, .q), (6, .q), (7, .q), (8, .q), (9, .g), (10, .q), (11, .q), (12, .q), (13, .q), (14, .q), (15, .g), (16, .q), (17, .q), (18, .q), (19, .q), (20, .q), (21, .q), (22, .q), (23, .q), (24, .q), (25, .q), (26, .q), (28, .q), (29, .q), (30, .q), (31, .q), (27, .g), (32, .q), (33, .q), (34, .q)] (by kernel_rfl) (by kernel_rfl) ?_
        simp only [pick, List.filterMap_cons, List.filterMap_nil, List.getElem?_toArray, List.getElem?_cons_zero, List.getElem?_cons_succ, Option.map_some]
        repeat (first
          | ((with_reducible refine wpD_p (fun K hK => ?_)); go_simp; refine hK _ ?_; clear hK K)
          | ((with_reducible refine wpD_q (fun K hK => ?_)); go_simp; (first | refine hK _ ?_ | (go_bits; refine hK _ ?_) | (go_bits; go_simp; refine hK _ ?_)); clear hK K)
          | ((with_reducible refine wpD_g (fun K hK => ?_)); go_simp; refine hK _ _ ?_; clear hK K)
          | ((with_reducible refine wpD_g (fun K hK => ?_)); go_simp; refine ⟨Grew.of_alloc _, hK _ _ ?_⟩; clear hK K)
          | ((with_reducible refine wpD_g (fun K hK => ?_)); go_simp; refine ⟨Below.refl _ _, hK _ _ ?_⟩; clear hK K)
          | ((with_reducible refine wpD_g (fun K hK => ?_)); go_simp; go_at_call 70; refine (l01Point_atA hvH.out).mono ?_; rintro e w1 ⟨rfl, hb1⟩; refine ⟨_, rfl, hb1, hK _ _ ?_⟩; clear hK K; obtain ⟨chb1, fhb1, shb1, thb1⟩ := bcell hb1; (try have bhb10 := shb1 (w.heap.size) (by go_simp)); (try have bhb11 := shb1 (p) (by go_simp)))
          | ((with_reducible refine wpD_g (fun K hK => ?_)); go_simp; go_at_call 71; refine (l02Index_atA (hS.out.below (by exact bel_)) htm hiH.out).mono ?_; rintro e w2 ⟨rfl, hb2⟩; refine ⟨_, rfl, hb2, hK _ _ ?_⟩; clear hK K; obtain ⟨chb2, fhb2, shb2, thb2⟩ := bcell hb2; (try have bhb20 := shb2 (w.heap.size) (by go_simp)); (try have bhb21 := shb2 (p) (by go_simp)))
          | ((with_reducible refine wpD_g (fun K hK => ?_)); go_simp; go_at_call 72; refine (l03Index_at (hA.out.below (by exact bel_)) hV hrH.out).mono ?_; rintro e w3 ⟨rfl, hb3⟩; refine ⟨_, rfl, hb3, hK _ _ ?_⟩; clear hK K; obtain ⟨chb3, fhb3, shb3, thb3⟩ := bcell hb3; (try have bhb30 := shb3 (w.heap.size) (by go_simp)); (try have bhb31 := shb3 (p) (by go_simp))))
        with_reducible refine wpD_nil ?_
        go_wp2
        go_ret
        exact ⟨ret_bool hres.out, by exact bel_⟩
set_option maxRecDepth 100000 in
set_option maxHeartbeats 4000000 in
theorem l08Attach_any {pa oa : Nat} {gs : List Gl} {ts : List Ti} {ys : List Pl} {x y t : Int} {w : World} (hA0 : AsmAt w pa oa ys) (hV : Valid gs ts ys) (hfree : atI ys x y < 0) {r : List Pl × Int} (hr : (if 500 ≤ ys.length then (([] : List Pl), (4 : Int)) else (insP ys x y t, 0)) = r) :
    Calls Tryz.prog 37 #[.pointer (some ⟨pa, oa, none⟩), .agg #[.int .i64 x, .int .i64 y, .int .i64 t]] w (AsmRes w r) := by
  
  have hA := Lib.hid hA0
  have la := hA0.lt
  obtain ⟨i, hi⟩ := ins_exists hV x y
  have hIn := Lib.hid hi
  have hlo := Lib.hid hi.lo
  have hhi := Lib.hid (hi.hi hV hfree)
  have hle := hi.1
  obtain ⟨_, C, k, cc, cq, hR⟩ := id hA0
  have hl := hR.len
  have hk5 : k ≤ 500 := by rw [← hl]; exact hV.len
  clear hA0 hR hi hfree
  by_cases hf : 500 ≤ k
  · have hrH := Lib.hid ((if_pos (by omega)).symm.trans hr)
    clear hr
    go_enter Tryz.func37, Tryz.ntmps37
    go_wp2
    refine bodyPost_ret (v := .tuple #[.agg #[.slice none 0 0], .int .i64 4]) (by simp only [results, Tryz.results37]; go_simp) rfl ?_
    exact AsmRes.of hrH.out rfl (World.ownsRow_nil _ _ _ _) (by exact bel_)
  · have hrH := Lib.hid ((if_neg (by omega)).symm.trans hr)
    clear hr
    go_enter Tryz.func37, Tryz.ntmps37
    go_wp2_with (go_at_call 74; refine (l03Put_any pa gs ts ys x y t i _ (hA.out.below (by exact bel_)) (by omega) hle hlo.out hhi.out).mono ?_; rintro e w5 ⟨v5, rfl, ho5, hb5⟩; obtain ⟨A5, c5, rfl⟩ := ownsRow_form ho5; obtain ⟨chb5, fhb5, shb5, thb5⟩ := bcell hb5; (have b51 := shb5 (w.heap.size + 1) (by go_simp)); have q53 := chb5 (w.heap.size + 1) 0 (by go_simp); have qf5 := fhb5 (w.heap.size + 1) 0 (by go_simp); have hoH := Lib.hid ho5; have hB5 := Lib.hid (show Below w.heap.size w w5 by exact bel_); clear ho5)
    refine bodyPost_ret (v := .tuple #[.agg #[.slice A5 (insL ys i ⟨x, y, t⟩).length c5], .int .i64 0]) (by simp only [results, Tryz.results37]; go_simp) rfl ?_
    exact AsmRes.of (by rw [insP_eq hIn.out]; exact hrH.out) rfl (ownsRow_baseA (ownsRow_setLow hoH.out (p := ⟨w.heap.size + 1, 0, none⟩) (by simp) _) (by simp <;> omega)) (hB5.out.setCell (p := ⟨w.heap.size + 1, 0, none⟩) (by show w.heap.size ≤ w.heap.size + 1; omega) _)
set_option maxRecDepth 100000 in
set_option maxHeartbeats 4000000 in
theorem sAttach_any (G T A C : Option Addr) (n cg m ct q ca k cc : Nat) (gs : List Gl) (ts : List Ti) (xs ys : List Pl) (te x y t : Int) (w : World) (h : SA w G n T m A q gs ts xs) (h2 : SA w G n T m C k gs ts ys) :
    Calls Tryz.prog 14 #[.agg #[.slice G n cg, .slice T m ct, .slice A q ca, .int .i64 te], .agg #[.slice C k cc], .agg #[.int .i64 x, .int .i64 y, .int .i64 t]] w (AsmRes w (attR gs ts xs te ys x y t)) := by
  
  have hS := Lib.hid (show SysAt ((((w.alloc (Obj.cells #[.slice G n cg, .slice T m ct, .slice A q ca, .int .i64 te] 55)).alloc (Obj.cells #[.slice C k cc] 40)).alloc (Obj.cells #[.int .i64 x, .int .i64 y, .int .i64 t] 59)).alloc (Obj.cells #[.slice none 0 0] 40)) w.heap.size 0 gs ts xs te from (h.sysbox cg ct ca te).below (by exact bel_))
  have hA := Lib.hid (show AsmAt ((((w.alloc (Obj.cells #[.slice G n cg, .slice T m ct, .slice A q ca, .int .i64 te] 55)).alloc (Obj.cells #[.slice C k cc] 40)).alloc (Obj.cells #[.int .i64 x, .int .i64 y, .int .i64 t] 59)).alloc (Obj.cells #[.slice none 0 0] 40)) (w.heap.size + 1) 0 ys from ⟨by simp, C, k, cc, by go_simp, h2.A.below RPl.stable (by exact bel_)⟩)
  have hk : ys.length ≤ 1073741824 := by rw [h2.A.len]; exact h2.q
  clear h h2
  cases hg : growB gs ts xs te ys
  · have hgH := Lib.hid hg
    clear hg
    go_enter Tryz.func14, Tryz.ntmps14
    go_wp2_with (go_at_call 35; refine (l08Asked_at hS.out hA.out hk hgH.out).mono ?_; simp only [codeB_false]; rintro e w1 ⟨rfl, hb1⟩; obtain ⟨chb1, fhb1, shb1, thb1⟩ := bcell hb1; have bhb10 := shb1 (w.heap.size) (by go_simp); have bhb11 := shb1 (w.heap.size + 1) (by go_simp); have bhb12 := shb1 (w.heap.size + 1 + 1) (by go_simp); have bhb13 := shb1 (w.heap.size + 1 + 1 + 1) (by go_simp); have qhb10 := chb1 w.heap.size 0 (by go_simp); have qhb11 := chb1 w.heap.size 1 (by go_simp); have qhb12 := chb1 w.heap.size 2 (by go_simp); have qhb13 := chb1 w.heap.size 3 (by go_simp); have qhb14 := chb1 (w.heap.size + 1) 0 (by go_simp); have qhb15 := chb1 (w.heap.size + 1 + 1) 0 (by go_simp); have qhb16 := chb1 (w.heap.size + 1 + 1) 1 (by go_simp); have qhb17 := chb1 (w.heap.size + 1 + 1) 2 (by go_simp); have qhb18 := chb1 (w.heap.size + 1 + 1 + 1) 0 (by go_simp); have qfhb1 := fhb1 (w.heap.size + 1 + 1 + 1) 0 (by go_simp); clear chb1 fhb1)
    refine bodyPost_ret (v := .tuple #[.agg #[.slice none 0 0], .int .i64 1]) (by simp only [results, Tryz.results14]; go_simp) rfl ?_
    have hB1 := Lib.hid (show Below w.heap.size w w1 by exact bel_)
    exact AsmRes.of (attR_no hgH.out) rfl (World.ownsRow_nil _ _ _ _) (hB1.out.setCell (p := ⟨w.heap.size + 1 + 1 + 1, 0, none⟩) (by show w.heap.size ≤ w.heap.size + 1 + 1 + 1; omega) _)
  · have hgH := Lib.hid hg
    have hV := valid_of (growB_true hg).2
    clear hg
    obtain ⟨b, hb⟩ : ∃ b, canB gs ts ys te x y t = b := ⟨_, rfl⟩
    have hcH := Lib.hid hb
    clear hb
    cases b
    · go_enter Tryz.func14, Tryz.ntmps14
      go_wp2_with (first
        | (go_at_call 35; refine (l08Asked_at hS.out hA.out hk hgH.out).mono ?_; simp only [codeB_true]; rintro e w1 ⟨rfl, hb1⟩; obtain ⟨chb1, fhb1, shb1, thb1⟩ := bcell hb1; have bhb10 := shb1 (w.heap.size) (by go_simp); have bhb11 := shb1 (w.heap.size + 1) (by go_simp); have bhb12 := shb1 (w.heap.size + 1 + 1) (by go_simp); have bhb13 := shb1 (w.heap.size + 1 + 1 + 1) (by go_simp); have qhb10 := chb1 w.heap.size 0 (by go_simp); have qhb11 := chb1 w.heap.size 1 (by go_simp); have qhb12 := chb1 w.heap.size 2 (by go_simp); have qhb13 := chb1 w.heap.size 3 (by go_simp); have qhb14 := chb1 (w.heap.size + 1) 0 (by go_simp); have qhb15 := chb1 (w.heap.size + 1 + 1) 0 (by go_simp); have qhb16 := chb1 (w.heap.size + 1 + 1) 1 (by go_simp); have qhb17 := chb1 (w.heap.size + 1 + 1) 2 (by go_simp); have qhb18 := chb1 (w.heap.size + 1 + 1 + 1) 0 (by go_simp); have qfhb1 := fhb1 (w.heap.size + 1 + 1 + 1) 0 (by go_simp); clear chb1 fhb1; have hS1 := Lib.hid (hS.out.below hb1); have hA1 := Lib.hid (hA.out.below hb1))
        | (go_at_call 36; refine (l08Can_any (hS1.out.below (by exact bel_)) (hA1.out.below (by exact bel_)) hV hcH.out).mono ?_; rintro e w2 ⟨rfl, hb2⟩; obtain ⟨chb2, fhb2, shb2, thb2⟩ := bcell hb2; have bhb20 := shb2 (w.heap.size) (by go_simp); have bhb21 := shb2 (w.heap.size + 1) (by go_simp); have bhb22 := shb2 (w.heap.size + 1 + 1) (by go_simp); have bhb23 := shb2 (w.heap.size + 1 + 1 + 1) (by go_simp); have qhb20 := chb2 w.heap.size 0 (by go_simp); have qhb21 := chb2 w.heap.size 1 (by go_simp); have qhb22 := chb2 w.heap.size 2 (by go_simp); have qhb23 := chb2 w.heap.size 3 (by go_simp); have qhb24 := chb2 (w.heap.size + 1) 0 (by go_simp); have qhb25 := chb2 (w.heap.size + 1 + 1) 0 (by go_simp); have qhb26 := chb2 (w.heap.size + 1 + 1) 1 (by go_simp); have qhb27 := chb2 (w.heap.size + 1 + 1) 2 (by go_simp); have qhb28 := chb2 (w.heap.size + 1 + 1 + 1) 0 (by go_simp); have qfhb2 := fhb2 (w.heap.size + 1 + 1 + 1) 0 (by go_simp); clear chb2 fhb2))
      refine bodyPost_ret (v := .tuple #[.agg #[.slice none 0 0], .int .i64 2]) (by simp only [results, Tryz.results14]; go_simp) rfl ?_
      have hB2 := Lib.hid (show Below w.heap.size w w2 by exact bel_)
      exact AsmRes.of (attR_not hgH.out hcH.out) rfl (World.ownsRow_nil _ _ _ _) (hB2.out.setCell (p := ⟨w.heap.size + 1 + 1 + 1, 0, none⟩) (by show w.heap.size ≤ w.heap.size + 1 + 1 + 1; omega) _)
    · have hfr := canB_free hcH.out
      obtain ⟨r, hr⟩ : ∃ r, (if 500 ≤ ys.length then (([] : List Pl), (4 : Int)) else (insP ys x y t, 0)) = r := ⟨_, rfl⟩
      have hrH := Lib.hid hr
      have hat := Lib.hid (show r = attR gs ts xs te ys x y t by unfold attR; rw [if_pos hgH.out, if_pos hcH.out, ← hr])
      clear hr
      go_enter Tryz.func14, Tryz.ntmps14
      go_wp2_with (first
        | (go_at_call 35; refine (l08Asked_at hS.out hA.out hk hgH.out).mono ?_; simp only [codeB_true]; rintro e w1 ⟨rfl, hb1⟩; obtain ⟨chb1, fhb1, shb1, thb1⟩ := bcell hb1; have bhb10 := shb1 (w.heap.size) (by go_simp); have bhb11 := shb1 (w.heap.size + 1) (by go_simp); have bhb12 := shb1 (w.heap.size + 1 + 1) (by go_simp); have bhb13 := shb1 (w.heap.size + 1 + 1 + 1) (by go_simp); have qhb10 := chb1 w.heap.size 0 (by go_simp); have qhb11 := chb1 w.heap.size 1 (by go_simp); have qhb12 := chb1 w.heap.size 2 (by go_simp); have qhb13 := chb1 w.heap.size 3 (by go_simp); have qhb14 := chb1 (w.heap.size + 1) 0 (by go_simp); have qhb15 := chb1 (w.heap.size + 1 + 1) 0 (by go_simp); have qhb16 := chb1 (w.heap.size + 1 + 1) 1 (by go_simp); have qhb17 := chb1 (w.heap.size + 1 + 1) 2 (by go_simp); have qhb18 := chb1 (w.heap.size + 1 + 1 + 1) 0 (by go_simp); have qfhb1 := fhb1 (w.heap.size + 1 + 1 + 1) 0 (by go_simp); clear chb1 fhb1; have hS1 := Lib.hid (hS.out.below hb1); have hA1 := Lib.hid (hA.out.below hb1))
        | (go_at_call 36; refine (l08Can_any (hS1.out.below (by exact bel_)) (hA1.out.below (by exact bel_)) hV hcH.out).mono ?_; rintro e w2 ⟨rfl, hb2⟩; obtain ⟨chb2, fhb2, shb2, thb2⟩ := bcell hb2; have bhb20 := shb2 (w.heap.size) (by go_simp); have bhb21 := shb2 (w.heap.size + 1) (by go_simp); have bhb22 := shb2 (w.heap.size + 1 + 1) (by go_simp); have bhb23 := shb2 (w.heap.size + 1 + 1 + 1) (by go_simp); have qhb20 := chb2 w.heap.size 0 (by go_simp); have qhb21 := chb2 w.heap.size 1 (by go_simp); have qhb22 := chb2 w.heap.size 2 (by go_simp); have qhb23 := chb2 w.heap.size 3 (by go_simp); have qhb24 := chb2 (w.heap.size + 1) 0 (by go_simp); have qhb25 := chb2 (w.heap.size + 1 + 1) 0 (by go_simp); have qhb26 := chb2 (w.heap.size + 1 + 1) 1 (by go_simp); have qhb27 := chb2 (w.heap.size + 1 + 1) 2 (by go_simp); have qhb28 := chb2 (w.heap.size + 1 + 1 + 1) 0 (by go_simp); have qfhb2 := fhb2 (w.heap.size + 1 + 1 + 1) 0 (by go_simp); clear chb2 fhb2; have hA2 := Lib.hid (hA1.out.below (show Below w1.heap.size w1 w2 by exact bel_)))
        | (go_at_call 37; refine (l08Attach_any (hA2.out.below (by exact bel_)) hV hfr hrH.out).mono ?_; rintro e w5 ⟨A5, c5, rfl, ho5, hb5⟩; obtain ⟨chb5, fhb5, shb5, thb5⟩ := bcell hb5; (have b53 := shb5 (w.heap.size + 1 + 1 + 1) (by go_simp)); have q53 := chb5 (w.heap.size + 1 + 1 + 1) 0 (by go_simp); have qf5 := fhb5 (w.heap.size + 1 + 1 + 1) 0 (by go_simp); have hoH := Lib.hid ho5; have hB2 := Lib.hid (show Below w.heap.size w w2 by exact bel_); have hB5 := Lib.hid (show Below w.heap.size w w5 by exact bel_); clear ho5))
      refine bodyPost_ret (v := .tuple #[.agg #[.slice A5 r.1.length c5], .int .i64 r.2]) (by simp only [results, Tryz.results14]; go_simp) rfl ?_
      exact AsmRes.of (bs := r.1) hat.out rfl (ownsRow_baseA (ownsRow_setLow hoH.out (p := ⟨w.heap.size + 1 + 1 + 1, 0, none⟩) (by first | assumption | omega) _) (by have := hB2.out.size; omega)) (hB5.out.setCell (p := ⟨w.heap.size + 1 + 1 + 1, 0, none⟩) (by show w.heap.size ≤ w.heap.size + 1 + 1 + 1; omega) _)
end Go.Proofs.YthieodccakphiaaGreat
/- Walks: the harness' copy of an option; how long Attach's answer is. -/


namespace Go.Proofs.YthieodccakphiaaGreat
open Go.RowKit Go.Shelf
attribute [local go_sem] BelowBy.cell BelowBy.cell_drew stillUpon givesUpon
theorem toOption_any (x y t : Int) (w : World) :
    Calls Tryz.prog 16 #[.agg #[.int .i64 x, .int .i64 y, .int .i64 t]] w fun e w' => e = .returned (.agg #[.int .i64 x, .int .i64 y, .int .i64 t]) ∧ Below w.heap.size w w' := by
  
  go_enter Tryz.func16, Tryz.ntmps16
  go_wp2_with (go_at_call 38; refine (toPoint_any _ _ _).mono ?_; rintro e w1 ⟨rfl, hb1⟩; obtain ⟨chb1, fhb1, shb1, thb1⟩ := bcell hb1; (try have bhb10 := shb1 (w.heap.size) (by go_simp)); (try have bhb11 := shb1 (w.heap.size + 1) (by go_simp)); (try have bhb12 := shb1 (w.heap.size + 1 + 1) (by go_simp)))
  refine bodyPost_ret (v := .agg #[.int .i64 x, .int .i64 y, .int .i64 t]) (by simp only [results, Tryz.results16]; go_simp) rfl ?_
  refine ⟨rfl, ?_⟩
  exact bel_
theorem attR_len (gs : List Gl) (ts : List Ti) (xs : List Pl) (te : Int) (ys : List Pl) (x y t : Int) : (attR gs ts xs te ys x y t).1.length ≤ 1073741824 := by
  unfold attR
  split
  · rename_i hg
    have hV := valid_of (growB_true hg).2
    split
    · split
      · simp
      · obtain ⟨i, hi⟩ := ins_exists hV x y
        show (insP ys x y t).length ≤ 1073741824
        rw [← insP_eq hi, insL_len]
        have := hV.len; omega
    · simp
  · simp
end Go.Proofs.YthieodccakphiaaGreat
