import Derived.Test.YtpnahobgmemdjaaGAE
set_option linter.unusedSimpArgs false
set_option linter.unusedVariables false
/- Plain facts: what a valid assembly bears; places of points; strengths of bonds. -/


namespace Go.Proofs.Ytpnahobgmemdjaa
open Go.RowKit
theorem allB_at {n k : Nat} {p : Nat → Bool} (h : allB n p = true) (hk : k < n) : p k = true := by
  simp only [allB, List.all_eq_true, List.mem_range] at h
  exact h k hk
theorem lt_of_get {α : Type} {xs : List α} {k : Nat} {e : α} (h : xs[k]? = some e) : k < xs.length := (List.getElem?_eq_some_iff.1 h).1
theorem lessPt_iff (ax ay bx b_y : Int) : lessPt ax ay bx b_y = true ↔ ay < b_y ∨ (ay = b_y ∧ ax < bx) := by
  rw [lessPt_eq]; simp
structure Valid (gs : List Gl) (ts : List Ti) (xs : List Pl) : Prop where
  len : xs.length ≤ 500
  gl : gs.length ≤ 200
  tl : ts.length ≤ 160
  pt : ∀ (k : Nat) (e : Pl), xs[k]? = some e → (-60 ≤ e.x ∧ e.x ≤ 60) ∧ (-60 ≤ e.y ∧ e.y ≤ 60)
  ti : ∀ (k : Nat) (e : Pl), xs[k]? = some e → ∃ t : Nat, e.t = t ∧ t < ts.length
  sorted : ∀ (i j : Nat) (d e : Pl), i < j → xs[i]? = some d → xs[j]? = some e → lessPt d.x d.y e.x e.y = true
  four : ∀ (j : Nat) (t : Ti), ts[j]? = some t → t.sides.length = 4
  side : ∀ (j : Nat) (t : Ti) (d : Nat) (v : Int), ts[j]? = some t → t.sides[d]? = some v → ∃ g : Nat, v = g ∧ g ≤ gs.length
  str : ∀ (j : Nat) (g : Gl), gs[j]? = some g → 1 ≤ g.s ∧ g.s ≤ 4
theorem valid_of {gs : List Gl} {ts : List Ti} {xs : List Pl} (h : validAsmB gs ts xs = true) : Valid gs ts xs := by
  unfold validAsmB validSetB hasFormB at h
  simp only [Bool.and_eq_true, decide_eq_true_eq] at h
  obtain ⟨⟨⟨h1, h2, h3⟩, hg, ht⟩, ⟨hf, h4⟩, htl⟩ := h
  have hpl : ∀ (k : Nat) (e : Pl), xs[k]? = some e → validPt e.x e.y = true ∧ inB e.t 0 159 = true := fun k e he => by
    have := allB_at hf (lt_of_get he)
    unfold okPl at this
    rw [he] at this
    simp only [Bool.and_eq_true] at this
    exact this.1
  have hstep : ∀ (k : Nat) (d e : Pl), xs[k]? = some d → xs[k + 1]? = some e → lessPt d.x d.y e.x e.y = true := fun k d e hd he => by
    have := allB_at hf (lt_of_get he)
    rw [okPl_eqS he hd] at this
    simp only [Bool.and_eq_true] at this
    exact this.2
  refine ⟨h4, h1, h3, fun k e he => ?_, fun k e he => ?_, ?_, fun j t hj => ?_, fun j t d v hj hd => ?_, fun j g hj => ?_⟩
  · have := (hpl k e he).1
    simp only [validPt, Bool.and_eq_true, inB_true] at this
    exact this
  · have := allB_at htl (lt_of_get he)
    unfold okTile at this
    rw [he] at this
    have := inB_true.1 this
    exact ⟨e.t.toNat, by omega, by omega⟩
  · intro i j d e hij hd he
    induction j generalizing e with
    | zero => omega
    | succ j ih =>
      have hj : j < xs.length := by have := lt_of_get he; omega
      obtain ⟨c, hc⟩ : ∃ c, xs[j]? = some c := ⟨_, List.getElem?_eq_getElem hj⟩
      have h2 := hstep j c e hc he
      rcases Nat.lt_or_ge i j with h | h
      · have h1 := ih c h hc
        rw [lessPt_iff] at h1 h2 ⊢
        omega
      · obtain rfl : i = j := by omega
        rw [hd] at hc
        obtain rfl := Option.some.inj hc
        exact h2
  · have := allB_at ht (lt_of_get hj)
    rw [okTi_eq hj] at this
    simp only [Bool.and_eq_true, decide_eq_true_eq] at this
    exact this.2.1
  · have := allB_at ht (lt_of_get hj)
    rw [okTi_eq hj] at this
    simp only [Bool.and_eq_true, decide_eq_true_eq] at this
    have := allB_at this.2.2.2 (lt_of_get hd)
    unfold okSide at this
    rw [hd] at this
    have := inB_true.1 this
    exact ⟨v.toNat, by omega, by omega⟩
  · have := allB_at hg (lt_of_get hj)
    rw [okGl_eq hj] at this
    simp only [Bool.and_eq_true] at this
    exact inB_true.1 this.2.1
/-- r is the place of the point, or -1 -/
def IsPlace (xs : List Pl) (x y r : Int) : Prop :=
  (r = -1 ∧ ∀ (k : Nat) (e : Pl), xs[k]? = some e → ¬ (e.x = x ∧ e.y = y)) ∨ ∃ (k : Nat) (e : Pl), r = k ∧ xs[k]? = some e ∧ e.x = x ∧ e.y = y
noncomputable def placeI (xs : List Pl) (x y : Int) : Int := Classical.epsilon (IsPlace xs x y)
theorem IsPlace.eq {gs : List Gl} {ts : List Ti} {xs : List Pl} (hV : Valid gs ts xs) {x y r : Int} (h : IsPlace xs x y r) : r = placeI xs x y := by
  have h' : IsPlace xs x y (placeI xs x y) := Classical.epsilon_spec ⟨r, h⟩
  rcases h with ⟨rfl, h⟩ | ⟨k, e, rfl, he, hx, hy⟩
  · rcases h' with ⟨h', _⟩ | ⟨k, e, _, he, hxy⟩
    · exact h'.symm
    · exact absurd hxy (h k e he)
  · rcases h' with ⟨_, h'⟩ | ⟨k', e', h', he', hx', hy'⟩
    · exact absurd ⟨hx, hy⟩ (h' k e he)
    · rw [h']
      rcases Nat.lt_trichotomy k k' with hk | hk | hk
      · have := (lessPt_iff _ _ _ _).1 (hV.sorted k k' e e' hk he he'); omega
      · rw [hk]
      · have := (lessPt_iff _ _ _ _).1 (hV.sorted k' k e' e hk he' he); omega
/-- what a binary search leaves -/
theorem place_found {xs : List Pl} {x y : Int} {k : Nat} {e : Pl} (he : xs[k]? = some e) (hx : e.x = x) (hy : e.y = y) : IsPlace xs x y k := Or.inr ⟨k, e, rfl, he, hx, hy⟩
theorem place_none {gs : List Gl} {ts : List Ti} {xs : List Pl} (hV : Valid gs ts xs) {x y : Int} {lo : Nat} (h1 : ∀ (j : Nat) (d : Pl), j < lo → xs[j]? = some d → lessPt d.x d.y x y = true) (h2 : ∀ (j : Nat) (d : Pl), lo ≤ j → xs[j]? = some d → lessPt d.x d.y x y = false)
    (h3 : ∀ (d : Pl), xs[lo]? = some d → ¬ (d.x = x ∧ d.y = y)) : IsPlace xs x y (-1) := by
  refine Or.inl ⟨rfl, fun k e he hxy => ?_⟩
  rcases Nat.lt_trichotomy k lo with hk | hk | hk
  · have := (lessPt_iff _ _ _ _).1 (h1 k e hk he); omega
  · subst hk; exact h3 e he hxy
  · obtain ⟨d, hd⟩ : ∃ d, xs[lo]? = some d := ⟨_, List.getElem?_eq_getElem (by have := lt_of_get he; omega)⟩
    have h4 := h2 lo d (Nat.le_refl _) hd
    have h5 := (lessPt_iff _ _ _ _).1 (hV.sorted lo k d e hk hd he)
    have h6 : ¬ (d.y < y ∨ (d.y = y ∧ d.x < x)) := by rw [← lessPt_iff, h4]; simp
    omega
theorem lessPt_trans {a b c d e f : Int} (h1 : lessPt a b c d = true) (h2 : lessPt c d e f = true) : lessPt a b e f = true := by
  rw [lessPt_iff] at *; omega
theorem lessPt_cmp (ax ay bx b_y : Int) : decide (cmpPt ax ay bx b_y < 0) = lessPt ax ay bx b_y := rfl
theorem cmpPt_zero (ax ay bx b_y : Int) : (cmpPt ax ay bx b_y == 0) = decide (ax = bx ∧ ay = b_y) := by
  rw [Bool.eq_iff_iff, beq_iff_eq, decide_eq_true_eq]
  unfold cmpPt orI cmpI
  constructor
  · intro h
    by_cases h1 : ay < b_y
    · rw [if_pos h1, if_pos (by decide)] at h; omega
    · rw [if_neg h1] at h
      by_cases h2 : b_y < ay
      · rw [if_pos h2, if_pos (by decide)] at h; omega
      · rw [if_neg h2, if_neg (by decide)] at h
        by_cases h3 : ax < bx
        · rw [if_pos h3] at h; omega
        · rw [if_neg h3] at h
          by_cases h4 : bx < ax
          · rw [if_pos h4] at h; omega
          · omega
  · rintro ⟨rfl, rfl⟩
    simp
/-- sides and strengths -/
def sideI (ts : List Ti) (t d : Nat) : Int := match ts[t]? with
  | none => 0
  | some ti => match ti.sides[d]? with
    | none => 0
    | some v => v
def strI (gs : List Gl) (v : Int) : Int := if v = 0 then 0 else match gs[(v - 1).toNat]? with
  | none => 0
  | some g => g.s
def oppN (d : Nat) : Nat := if d < 2 then d + 2 else d - 2
def bondI (gs : List Gl) (ts : List Ti) (a d b : Nat) : Int := if sideI ts a d = sideI ts b (oppN d) then strI gs (sideI ts a d) else 0
theorem sideI_eq {ts : List Ti} {t d : Nat} {ti : Ti} {v : Int} (h : ts[t]? = some ti) (hv : ti.sides[d]? = some v) : sideI ts t d = v := by
  unfold sideI; simp only [h, hv]
theorem strI_eq {gs : List Gl} {v : Nat} {g : Gl} (h : gs[v]? = some g) : strI gs ((v : Int) + 1) = g.s := by
  unfold strI; rw [if_neg (by omega)]
  have : ((v : Int) + 1 - 1).toNat = v := by omega
  simp only [this, h]
theorem strI_zero (gs : List Gl) : strI gs 0 = 0 := by simp [strI]
theorem oppI_nat {d : Nat} : oppI d = (oppN d : Int) := by
  unfold oppI oppN; split <;> split <;> omega
end Go.Proofs.Ytpnahobgmemdjaa
/- Walks: the program's places, steps and bonds' strengths. -/

namespace Go.Proofs.Ytpnahobgmemdjaa
open Go.RowKit
attribute [local go_sem] BelowBy.cell BelowBy.cell_drew stillUpon givesUpon

theorem plus_any (a b c d : Int) (w : World) (h1 : -1000000 ≤ a ∧ a ≤ 1000000) (h2 : -1000000 ≤ b ∧ b ≤ 1000000) (h3 : -1000000 ≤ c ∧ c ≤ 1000000) (h4 : -1000000 ≤ d ∧ d ≤ 1000000) :
    Calls Try.prog 86 #[.agg #[.int .i64 a, .int .i64 b], .agg #[.int .i64 c, .int .i64 d]] w fun e w' => e = .returned (.agg #[.int .i64 (a + c), .int .i64 (b + d)]) ∧ Below w.heap.size w w' := by
  go_enter Try.func86, Try.ntmps86
  go_wp2
  refine bodyPost_ret (v := .agg #[.int .i64 (a + c), .int .i64 (b + d)]) (by simp only [results, Try.results86]; go_simp) rfl ?_
  exact ⟨rfl, by exact bel_⟩
set_option maxRecDepth 100000 in
theorem step_any (x y : Int) (d : Nat) (w : World) (hd : d < 4) (hx : -1000 ≤ x ∧ x ≤ 1000) (hy : -1000 ≤ y ∧ y ≤ 1000) :
    Calls Try.prog 69 #[.agg #[.int .i64 x, .int .i64 y], .int .i64 d] w fun e w' => e = .returned (.agg #[.int .i64 (stepX x d), .int .i64 (stepY y d)]) ∧ Below w.heap.size w w' := by
  have : d = 0 ∨ d = 1 ∨ d = 2 ∨ d = 3 := by omega
  have hi0 : ∀ W, (Instr.index 110 (.agg #[.int .i64 0, .int .i64 1, .int .i64 1, .int .i64 0, .int .i64 0, .int .i64 (-1), .int .i64 (-1), .int .i64 0]) (.int .i64 0)).run Try.prog W = .ok (.agg #[.int .i64 0, .int .i64 1]) W := fun W => by kernel_rfl
  have hi1 : ∀ W, (Instr.index 110 (.agg #[.int .i64 0, .int .i64 1, .int .i64 1, .int .i64 0, .int .i64 0, .int .i64 (-1), .int .i64 (-1), .int .i64 0]) (.int .i64 1)).run Try.prog W = .ok (.agg #[.int .i64 1, .int .i64 0]) W := fun W => by kernel_rfl
  have hi2 : ∀ W, (Instr.index 110 (.agg #[.int .i64 0, .int .i64 1, .int .i64 1, .int .i64 0, .int .i64 0, .int .i64 (-1), .int .i64 (-1), .int .i64 0]) (.int .i64 2)).run Try.prog W = .ok (.agg #[.int .i64 0, .int .i64 (-1)]) W := fun W => by kernel_rfl
  have hi3 : ∀ W, (Instr.index 110 (.agg #[.int .i64 0, .int .i64 1, .int .i64 1, .int .i64 0, .int .i64 0, .int .i64 (-1), .int .i64 (-1), .int .i64 0]) (.int .i64 3)).run Try.prog W = .ok (.agg #[.int .i64 (-1), .int .i64 0]) W := fun W => by kernel_rfl
  rcases this with rfl | rfl | rfl | rfl
  · show Calls Try.prog 69 #[.agg #[.int .i64 x, .int .i64 y], .int .i64 0] w fun e w' => e = .returned (.agg #[.int .i64 (x), .int .i64 (y + 1)]) ∧ Below w.heap.size w w'
    go_enter Try.func69, Try.ntmps69
    go_wp2_with (go_at_call 86; refine (plus_any _ _ _ _ _ ⟨by omega, by omega⟩ ⟨by omega, by omega⟩ ⟨by omega, by omega⟩ ⟨by omega, by omega⟩).mono ?_; rintro e w1 ⟨rfl, hb1⟩; obtain ⟨chb1, fhb1, shb1, thb1⟩ := bcell hb1)
    refine bodyPost_ret (v := .agg #[.int .i64 (x), .int .i64 (y + 1)]) (by simp only [results, Try.results69]; go_simp) rfl ?_
    exact ⟨rfl, by exact bel_⟩
  · show Calls Try.prog 69 #[.agg #[.int .i64 x, .int .i64 y], .int .i64 1] w fun e w' => e = .returned (.agg #[.int .i64 (x + 1), .int .i64 (y)]) ∧ Below w.heap.size w w'
    go_enter Try.func69, Try.ntmps69
    go_wp2_with (go_at_call 86; refine (plus_any _ _ _ _ _ ⟨by omega, by omega⟩ ⟨by omega, by omega⟩ ⟨by omega, by omega⟩ ⟨by omega, by omega⟩).mono ?_; rintro e w1 ⟨rfl, hb1⟩; obtain ⟨chb1, fhb1, shb1, thb1⟩ := bcell hb1)
    refine bodyPost_ret (v := .agg #[.int .i64 (x + 1), .int .i64 (y)]) (by simp only [results, Try.results69]; go_simp) rfl ?_
    exact ⟨rfl, by exact bel_⟩
  · show Calls Try.prog 69 #[.agg #[.int .i64 x, .int .i64 y], .int .i64 2] w fun e w' => e = .returned (.agg #[.int .i64 (x), .int .i64 (y - 1)]) ∧ Below w.heap.size w w'
    go_enter Try.func69, Try.ntmps69
    go_wp2_with (go_at_call 86; refine (plus_any _ _ _ _ _ ⟨by omega, by omega⟩ ⟨by omega, by omega⟩ ⟨by omega, by omega⟩ ⟨by omega, by omega⟩).mono ?_; rintro e w1 ⟨rfl, hb1⟩; obtain ⟨chb1, fhb1, shb1, thb1⟩ := bcell hb1)
    refine bodyPost_ret (v := .agg #[.int .i64 (x), .int .i64 (y + -1)]) (by simp only [results, Try.results69]; go_simp) rfl ?_
    exact ⟨rfl, by exact bel_⟩
  · show Calls Try.prog 69 #[.agg #[.int .i64 x, .int .i64 y], .int .i64 3] w fun e w' => e = .returned (.agg #[.int .i64 (x - 1), .int .i64 (y)]) ∧ Below w.heap.size w w'
    go_enter Try.func69, Try.ntmps69
    go_wp2_with (go_at_call 86; refine (plus_any _ _ _ _ _ ⟨by omega, by omega⟩ ⟨by omega, by omega⟩ ⟨by omega, by omega⟩ ⟨by omega, by omega⟩).mono ?_; rintro e w1 ⟨rfl, hb1⟩; obtain ⟨chb1, fhb1, shb1, thb1⟩ := bcell hb1)
    refine bodyPost_ret (v := .agg #[.int .i64 (x + -1), .int .i64 (y)]) (by simp only [results, Try.results69]; go_simp) rfl ?_
    exact ⟨rfl, by exact bel_⟩
theorem comparePlaced_any (e : Pl) (x y : Int) (w : World) :
    Calls Try.prog 93 #[.agg #[.int .i64 e.x, .int .i64 e.y, .int .i64 e.t], .agg #[.int .i64 x, .int .i64 y]] w fun e' w' => e' = .returned (.int .i64 (cmpPt e.x e.y x y)) ∧ Below w.heap.size w w' := by
  go_enter Try.func93, Try.ntmps93
  go_wp2_with (go_at_call 71; refine (comparePoints_any _ _ _ _ _).mono ?_; rintro e w1 ⟨rfl, hb1⟩; obtain ⟨chb1, fhb1, shb1, thb1⟩ := bcell hb1)
  go_ret
  exact ⟨rfl, by exact bel_⟩
theorem comparePlaced_at {e : Pl} {x y : Int} {r : Int} {w : World} (h : cmpPt e.x e.y x y = r) :
    Calls Try.prog 93 #[.agg #[.int .i64 e.x, .int .i64 e.y, .int .i64 e.t], .agg #[.int .i64 x, .int .i64 y]] w fun e' w' => e' = .returned (.int .i64 r) ∧ Below w.heap.size w w' := by
  rw [← h]; exact comparePlaced_any _ _ _ _
/-- what BinarySearchFunc says -/
def SearchRes (w : World) (xs : List Pl) (x y : Int) (e : Ending) (w' : World) : Prop :=
  ∃ (r : Int) (b : Bool), e = .returned (.tuple #[.int .i64 r, .bool b]) ∧ ((if b then r else -1) = placeI xs x y ∧ 0 ≤ r) ∧ Below w.heap.size w w'
set_option maxHeartbeats 2000000 in
theorem BinarySearch_any (A : Option Addr) (n c : Nat) (gs : List Gl) (ts : List Ti) (xs : List Pl) (x y : Int) (w : World) (h2 : RdSl 3 RPl w A n xs) (hV : Valid gs ts xs) :
    Calls Try.prog 92 #[.slice A n c, .agg #[.int .i64 x, .int .i64 y], .func (.func 93) #[] #[]] w (SearchRes w xs x y) := by
  have hl := h2.len
  have h5 := hV.len
  
  go_enter Try.func92, Try.ntmps92
  go_wp2
  go_loopg [9, 10] n (fun g lo hi wr => ∃ i j : Nat, j - i ≤ g ∧ i ≤ j ∧ j ≤ n ∧ lo = .int .i64 i ∧ hi = .int .i64 j ∧ (∀ (k : Nat) (d : Pl), k < i → xs[k]? = some d → lessPt d.x d.y x y = true) ∧ (∀ (k : Nat) (d : Pl), j ≤ k → xs[k]? = some d → lessPt d.x d.y x y = false) ∧
    Below w.heap.size w wr ∧ wr.cell? ⟨w.heap.size, 0, none⟩ = some (.int .i64 x) ∧ wr.cell? ⟨w.heap.size, 1, none⟩ = some (.int .i64 y) ∧ w.heap.size < wr.heap.size)
  case atStart => exact ⟨0, n, by omega, by omega, by omega, rfl, rfl, fun k d hk => by omega, fun k d hk hd => by have := lt_of_get hd; omega, by exact bel_, by go_simp, by go_simp, by simp⟩
  case round =>
    obtain ⟨i, j, hg, hij, hjn, rfl, rfl, hloX, hhiX, hbw, hx0, hx1, hsz⟩ := hrel
    have hlo := Lib.hid hloX
    have hhi := Lib.hid hhiX
    clear hloX hhiX
    have g2 := h2.below RPl.stable hbw
    by_cases hlt2 : i < j
    · obtain ⟨b, o, rfl, hb, hc⟩ := g2.ptr (by omega)
      obtain ⟨m, hm⟩ : ∃ m : Nat, m = (i + j) / 2 := ⟨_, rfl⟩
      have hm1 : i ≤ m := by omega
      have hm2 : m < j := by omega
      have hmi : ((i : Int) + (j : Int)) / 2 = (m : Int) := by omega
      have hmn : m < n := by omega
      clear hm
      obtain ⟨e, he⟩ := g2.get (k := m) (by omega)
      obtain ⟨c0, c1, c2⟩ := hc m e he
      have he := Lib.hid he
      clear hc g2
      cases hl4 : lessPt e.x e.y x y
      · have hcz : decide (cmpPt e.x e.y x y < 0) = false := hl4
        go_wp2
        refine wp_region_ord [(0, .q), (1, .q), (2, .q), (3, .q), (4, .q), (5, .q), (6, .g), (7, .q)] (by kernel_rfl) (by kernel_rfl) ?_
        simp only [pick, List.filterMap_cons, List.filterMap_nil, List.getElem?_toArray, List.getElem?_cons_zero, List.getElem?_cons_succ, Option.map_some]
        repeat (first
          | ((with_reducible refine wpD_p (fun K hK => ?_)); go_simp; refine hK _ ?_; clear hK K)
          | ((with_reducible refine wpD_q (fun K hK => ?_)); go_simp; (first | refine hK _ ?_ | (go_bits; refine hK _ ?_) | (go_bits; go_simp; refine hK _ ?_)); clear hK K)
          | ((with_reducible refine wpD_g (fun K hK => ?_)); go_simp; refine hK _ _ ?_; clear hK K)
          | ((with_reducible refine wpD_g (fun K hK => ?_)); go_simp; refine ⟨Grew.of_alloc _, hK _ _ ?_⟩; clear hK K)
          | ((with_reducible refine wpD_g (fun K hK => ?_)); go_simp; go_at_call 93; refine (comparePlaced_any e _ _ _).mono ?_; rintro e w1 ⟨rfl, hb1⟩; refine ⟨_, rfl, hb1, hK _ _ ?_⟩; clear hK K; obtain ⟨chb1, fhb1, shb1, thb1⟩ := bcell hb1))
        with_reducible refine wpD_nil ?_
        go_wp2
        go_roundg (m - i)
        case measure => omega
        case rel => exact ⟨i, m, by omega, hm1, by omega, rfl, rfl, hlo.out, fun k d hk hd => (by
            rcases Nat.lt_or_ge m k with hmk | hmk
            · cases hh : lessPt d.x d.y x y with
              | false => rfl
              | true => rw [← hl4]; exact (lessPt_trans (hV.sorted m k e d hmk he.out hd) hh).symm
            · obtain rfl : m = k := by omega
              rw [he.out] at hd
              obtain rfl := Option.some.inj hd
              exact hl4), by exact bel_, (hb1.cell (p := ⟨w.heap.size, 0, none⟩) hsz).trans hx0, (hb1.cell (p := ⟨w.heap.size, 1, none⟩) hsz).trans hx1, Nat.lt_of_lt_of_le hsz hb1.size⟩
      · have hcz : decide (cmpPt e.x e.y x y < 0) = true := hl4
        go_wp2
        refine wp_region_ord [(0, .q), (1, .q), (2, .q), (3, .q), (4, .q), (5, .q), (6, .g), (7, .q)] (by kernel_rfl) (by kernel_rfl) ?_
        simp only [pick, List.filterMap_cons, List.filterMap_nil, List.getElem?_toArray, List.getElem?_cons_zero, List.getElem?_cons_succ, Option.map_some]
        repeat (first
          | ((with_reducible refine wpD_p (fun K hK => ?_)); go_simp; refine hK _ ?_; clear hK K)
          | ((with_reducible refine wpD_q (fun K hK => ?_)); go_simp; (first | refine hK _ ?_ | (go_bits; refine hK _ ?_) | (go_bits; go_simp; refine hK _ ?_)); clear hK K)
          | ((with_reducible refine wpD_g (fun K hK => ?_)); go_simp; refine hK _ _ ?_; clear hK K)
          | ((with_reducible refine wpD_g (fun K hK => ?_)); go_simp; refine ⟨Grew.of_alloc _, hK _ _ ?_⟩; clear hK K)
          | ((with_reducible refine wpD_g (fun K hK => ?_)); go_simp; go_at_call 93; refine (comparePlaced_any e _ _ _).mono ?_; rintro e w1 ⟨rfl, hb1⟩; refine ⟨_, rfl, hb1, hK _ _ ?_⟩; clear hK K; obtain ⟨chb1, fhb1, shb1, thb1⟩ := bcell hb1))
        with_reducible refine wpD_nil ?_
        go_wp2
        go_roundg (j - (m + 1))
        case measure => omega
        case rel => exact ⟨m + 1, j, by omega, hm2, by omega, by go_num, rfl, fun k d hk hd => (by
            rcases Nat.lt_or_ge k m with hmk | hmk
            · exact lessPt_trans (hV.sorted k m d e hmk hd he.out) hl4
            · obtain rfl : m = k := by omega
              rw [he.out] at hd
              obtain rfl := Option.some.inj hd
              exact hl4), hhi.out, by exact bel_, (hb1.cell (p := ⟨w.heap.size, 0, none⟩) hsz).trans hx0, (hb1.cell (p := ⟨w.heap.size, 1, none⟩) hsz).trans hx1, Nat.lt_of_lt_of_le hsz hb1.size⟩
    · obtain rfl : i = j := by omega
      by_cases hin : i < n
      · obtain ⟨b, o, rfl, hb, hc⟩ := g2.ptr (by omega)
        obtain ⟨e, he⟩ := g2.get (k := i) (by omega)
        obtain ⟨c0, c1, c2⟩ := hc i e he
        have he := Lib.hid he
        clear hc g2
        by_cases hxy : e.x = x ∧ e.y = y
        · have hcz : (cmpPt e.x e.y x y == 0) = true := by rw [cmpPt_zero]; exact decide_eq_true hxy
          have hP := Lib.hid (IsPlace.eq hV (place_found he.out hxy.1 hxy.2))
          clear hxy
          go_wp2
          refine wp_region_ord [(0, .q), (1, .q), (2, .q), (3, .q), (4, .q), (5, .q), (6, .q), (7, .q), (8, .q), (9, .q), (10, .q), (11, .g), (12, .q), (13, .q), (14, .q), (15, .q)] (by kernel_rfl) (by kernel_rfl) ?_
          simp only [pick, List.filterMap_cons, List.filterMap_nil, List.getElem?_toArray, List.getElem?_cons_zero, List.getElem?_cons_succ, Option.map_some]
          repeat (first
            | ((with_reducible refine wpD_p (fun K hK => ?_)); go_simp; refine hK _ ?_; clear hK K)
            | ((with_reducible refine wpD_q (fun K hK => ?_)); go_simp; (first | refine hK _ ?_ | (go_bits; refine hK _ ?_) | (go_bits; go_simp; refine hK _ ?_)); clear hK K)
            | ((with_reducible refine wpD_g (fun K hK => ?_)); go_simp; refine hK _ _ ?_; clear hK K)
            | ((with_reducible refine wpD_g (fun K hK => ?_)); go_simp; refine ⟨Grew.of_alloc _, hK _ _ ?_⟩; clear hK K)
            | ((with_reducible refine wpD_g (fun K hK => ?_)); go_simp; go_at_call 93; refine (comparePlaced_any e _ _ _).mono ?_; rintro e w1 ⟨rfl, hb1⟩; refine ⟨_, rfl, hb1, hK _ _ ?_⟩; clear hK K; obtain ⟨chb1, fhb1, shb1, thb1⟩ := bcell hb1))
          with_reducible refine wpD_nil ?_
          go_wp2
          go_ret2
          exact ⟨_, _, rfl, ⟨hP.out, by omega⟩, by exact bel_⟩
        · have hcz : (cmpPt e.x e.y x y == 0) = false := by rw [cmpPt_zero]; exact decide_eq_false hxy
          have hP := Lib.hid (IsPlace.eq hV (place_none hV hlo.out hhi.out (fun d hd => by rw [he.out] at hd; obtain rfl := Option.some.inj hd; exact hxy)))
          clear hxy
          go_wp2
          refine wp_region_ord [(0, .q), (1, .q), (2, .q), (3, .q), (4, .q), (5, .q), (6, .q), (7, .q), (8, .q), (9, .q), (10, .q), (11, .g), (12, .q), (13, .q), (14, .q), (15, .q)] (by kernel_rfl) (by kernel_rfl) ?_
          simp only [pick, List.filterMap_cons, List.filterMap_nil, List.getElem?_toArray, List.getElem?_cons_zero, List.getElem?_cons_succ, Option.map_some]
          repeat (first
            | ((with_reducible refine wpD_p (fun K hK => ?_)); go_simp; refine hK _ ?_; clear hK K)
            | ((with_reducible refine wpD_q (fun K hK => ?_)); go_simp; (first | refine hK _ ?_ | (go_bits; refine hK _ ?_) | (go_bits; go_simp; refine hK _ ?_)); clear hK K)
            | ((with_reducible refine wpD_g (fun K hK => ?_)); go_simp; refine hK _ _ ?_; clear hK K)
            | ((with_reducible refine wpD_g (fun K hK => ?_)); go_simp; refine ⟨Grew.of_alloc _, hK _ _ ?_⟩; clear hK K)
            | ((with_reducible refine wpD_g (fun K hK => ?_)); go_simp; go_at_call 93; refine (comparePlaced_any e _ _ _).mono ?_; rintro e w1 ⟨rfl, hb1⟩; refine ⟨_, rfl, hb1, hK _ _ ?_⟩; clear hK K; obtain ⟨chb1, fhb1, shb1, thb1⟩ := bcell hb1))
          with_reducible refine wpD_nil ?_
          go_wp2
          go_ret2
          exact ⟨_, _, rfl, ⟨hP.out, by omega⟩, by exact bel_⟩
      · have hP := Lib.hid (IsPlace.eq hV (place_none hV hlo.out hhi.out (fun d hd => by have := lt_of_get hd; omega)))
        clear g2
        go_wp2
        refine wp_region_ord [(0, .q), (1, .q), (2, .q), (3, .q), (4, .q), (5, .q), (6, .q), (7, .q), (8, .q), (9, .q), (10, .q), (11, .g), (12, .q), (13, .q), (14, .q), (15, .q)] (by kernel_rfl) (by kernel_rfl) ?_
        simp only [pick, List.filterMap_cons, List.filterMap_nil, List.getElem?_toArray, List.getElem?_cons_zero, List.getElem?_cons_succ, Option.map_some]
        repeat (first
          | ((with_reducible refine wpD_p (fun K hK => ?_)); go_simp; refine hK _ ?_; clear hK K)
          | ((with_reducible refine wpD_q (fun K hK => ?_)); go_simp; (first | refine hK _ ?_ | (go_bits; refine hK _ ?_) | (go_bits; go_simp; refine hK _ ?_)); clear hK K)
          | ((with_reducible refine wpD_g (fun K hK => ?_)); go_simp; refine hK _ _ ?_; clear hK K)
          | ((with_reducible refine wpD_g (fun K hK => ?_)); go_simp; refine ⟨Grew.of_alloc _, hK _ _ ?_⟩; clear hK K)
          | ((with_reducible refine wpD_g (fun K hK => ?_)); go_simp; go_at_call 93; refine (comparePlaced_any _ _ _ _).mono ?_; rintro e w1 ⟨rfl, hb1⟩; refine ⟨_, rfl, hb1, hK _ _ ?_⟩; clear hK K; obtain ⟨chb1, fhb1, shb1, thb1⟩ := bcell hb1))
        with_reducible refine wpD_nil ?_
        go_wp2
        go_ret2
        exact ⟨_, _, rfl, ⟨hP.out, by omega⟩, by exact bel_⟩
end Go.Proofs.Ytpnahobgmemdjaa
/- Walks: placeAt, cutCode. -/

namespace Go.Proofs.Ytpnahobgmemdjaa
open Go.RowKit
attribute [local go_sem] BelowBy.cell BelowBy.cell_drew stillUpon givesUpon

def cutCodeI (v : Bool) (n x y : Int) : Int := if v then (if inB x 0 (n - 1) && (inB y 0 (n - 1) && !(x == y)) then 0 else 2) else 1
end Go.Proofs.Ytpnahobgmemdjaa
