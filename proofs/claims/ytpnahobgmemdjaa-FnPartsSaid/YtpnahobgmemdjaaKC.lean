import Derived.Test.YtpnahobgmemdjaaP1
import Derived.Test.YtpnahobgmemdjaaW15
import Derived.Test.YtpnahobgmemdjaaW13
set_option linter.unusedSimpArgs false
set_option linter.unusedVariables false
/- Walks: the reference on assemblies: valid, index, neighbors, bonds' strengths. -/

namespace Go.Proofs.Ytpnahobgmemdjaa
open Go.RowKit
attribute [local go_sem] BelowBy.cell BelowBy.cell_drew stillUpon givesUpon
def codeB (b : Bool) : Int := if b then 0 else 1
theorem sLessPoint_at {ax ay bx b_y : Int} {v : Bool} {w : World} (h : lessPt ax ay bx b_y = v) :
    Calls Try.prog 43 #[.agg #[.int .i64 ax, .int .i64 ay], .agg #[.int .i64 bx, .int .i64 b_y]] w fun e w' => e = .returned (.bool v) ∧ Below w.heap.size w w' := by
  rw [← h]; exact sLessPoint_any _ _ _ _ _
set_option maxHeartbeats 2000000 in
theorem l03Index_any {op : Nat} (p : Nat) (gs : List Gl) (ts : List Ti) (xs : List Pl) (x y : Int) (w : World) (ha : AsmAt w p op xs) (hV : Valid gs ts xs) :
    Calls Try.prog 64 #[.pointer (some ⟨p, op, none⟩), .agg #[.int .i64 x, .int .i64 y]] w fun e w' => e = .returned (.int .i64 (placeI xs x y)) ∧ Below w.heap.size w w' := by
  obtain ⟨hlt, ⟨A, n, c, h1, h2⟩⟩ := id ha
  have hl := h2.len
  have h5 := hV.len
  
  go_enter Try.func64, Try.ntmps64
  go_wp2
  go_loopg [5, 6] n (fun g lo hi wr => ∃ i j : Nat, j - i ≤ g ∧ i ≤ j ∧ j ≤ n ∧ lo = .int .i64 i ∧ hi = .int .i64 j ∧ (∀ (k : Nat) (d : Pl), k < i → xs[k]? = some d → lessPt d.x d.y x y = true) ∧ (∀ (k : Nat) (d : Pl), j ≤ k → xs[k]? = some d → lessPt d.x d.y x y = false) ∧
    Below w.heap.size w wr ∧ wr.cell? ⟨w.heap.size, 0, none⟩ = some (.int .i64 x) ∧ wr.cell? ⟨w.heap.size, 1, none⟩ = some (.int .i64 y) ∧ w.heap.size < wr.heap.size)
  case atStart => exact ⟨0, n, by omega, by omega, by omega, rfl, rfl, fun k d hk => by omega, fun k d hk hd => by have := lt_of_get hd; omega, by exact bel_, by go_simp, by go_simp, by simp⟩
  case round =>
    obtain ⟨i, j, hg, hij, hjn, rfl, rfl, hloX, hhiX, hbw, hx0, hx1, hsz⟩ := hrel
    have hlo := Lib.hid hloX
    have hhi := Lib.hid hhiX
    clear hloX hhiX
    obtain ⟨plt, ⟨A', n', c', g1, g2⟩⟩ := ha.below hbw
    obtain rfl : n' = n := by rw [← g2.len]; exact hl
    by_cases hlt2 : i < j
    · obtain ⟨b, o, rfl, hb, hc⟩ := g2.ptr (by omega)
      obtain ⟨m, hm⟩ : ∃ m : Nat, m = (i + j) / 2 := ⟨_, rfl⟩
      have hm1 : i ≤ m := by omega
      have hm2 : m < j := by omega
      have hmi : ((i : Int) + (j : Int)) / 2 = (m : Int) := by omega
      have hmn : m < n' := by omega
      clear hm
      obtain ⟨e, he⟩ := g2.get (k := m) (by omega)
      obtain ⟨c0, c1, c2⟩ := hc m e he
      have he := Lib.hid he
      clear hc g2
      cases hl4 : lessPt e.x e.y x y
      · go_wp2
        refine wp_region_ord [(0, .q), (1, .q), (2, .q), (3, .q), (4, .q), (5, .q), (6, .q), (7, .q), (8, .q), (9, .g)] (by kernel_rfl) (by kernel_rfl) ?_
        simp only [pick, List.filterMap_cons, List.filterMap_nil, List.getElem?_toArray, List.getElem?_cons_zero, List.getElem?_cons_succ, Option.map_some]
        repeat (first
          | ((with_reducible refine wpD_p (fun K hK => ?_)); go_simp; refine hK _ ?_; clear hK K)
          | ((with_reducible refine wpD_q (fun K hK => ?_)); go_simp; (first | refine hK _ ?_ | (go_bits; refine hK _ ?_) | (go_bits; go_simp; refine hK _ ?_)); clear hK K)
          | ((with_reducible refine wpD_g (fun K hK => ?_)); go_simp; refine hK _ _ ?_; clear hK K)
          | ((with_reducible refine wpD_g (fun K hK => ?_)); go_simp; refine ⟨Grew.of_alloc _, hK _ _ ?_⟩; clear hK K)
          | ((with_reducible refine wpD_g (fun K hK => ?_)); go_simp; go_at_call 43; refine (sLessPoint_at hl4).mono ?_; rintro e w1 ⟨rfl, hb1⟩; refine ⟨_, rfl, hb1, hK _ _ ?_⟩; clear hK K; obtain ⟨chb1, fhb1, shb1, thb1⟩ := bcell hb1))
        with_reducible refine wpD_nil ?_
        go_wp2
        go_roundg (m - i)
        case measure => omega
        case rel => exact ⟨i, m, by omega, hm1, by omega, rfl, rfl, hlo.out, fun k d hk hd => (by
            rcases Nat.lt_or_ge m k with hmk | hmk
            · cases hh : lessPt d.x d.y x y with
              | false => rfl
              | true => rw [← hl4]; exact (lessPt_trans (hV.sorted m k e d hmk he.out hd) hh).symm
            · obtain rfl : m = k := by omega
              rw [he.out] at hd
              obtain rfl := Option.some.inj hd
              exact hl4), by exact bel_, (hb1.cell (p := ⟨w.heap.size, 0, none⟩) hsz).trans hx0, (hb1.cell (p := ⟨w.heap.size, 1, none⟩) hsz).trans hx1, Nat.lt_of_lt_of_le hsz hb1.size⟩
      · go_wp2
        refine wp_region_ord [(0, .q), (1, .q), (2, .q), (3, .q), (4, .q), (5, .q), (6, .q), (7, .q), (8, .q), (9, .g)] (by kernel_rfl) (by kernel_rfl) ?_
        simp only [pick, List.filterMap_cons, List.filterMap_nil, List.getElem?_toArray, List.getElem?_cons_zero, List.getElem?_cons_succ, Option.map_some]
        repeat (first
          | ((with_reducible refine wpD_p (fun K hK => ?_)); go_simp; refine hK _ ?_; clear hK K)
          | ((with_reducible refine wpD_q (fun K hK => ?_)); go_simp; (first | refine hK _ ?_ | (go_bits; refine hK _ ?_) | (go_bits; go_simp; refine hK _ ?_)); clear hK K)
          | ((with_reducible refine wpD_g (fun K hK => ?_)); go_simp; refine hK _ _ ?_; clear hK K)
          | ((with_reducible refine wpD_g (fun K hK => ?_)); go_simp; refine ⟨Grew.of_alloc _, hK _ _ ?_⟩; clear hK K)
          | ((with_reducible refine wpD_g (fun K hK => ?_)); go_simp; go_at_call 43; refine (sLessPoint_at hl4).mono ?_; rintro e w1 ⟨rfl, hb1⟩; refine ⟨_, rfl, hb1, hK _ _ ?_⟩; clear hK K; obtain ⟨chb1, fhb1, shb1, thb1⟩ := bcell hb1))
        with_reducible refine wpD_nil ?_
        go_wp2
        go_roundg (j - (m + 1))
        case measure => omega
        case rel => exact ⟨m + 1, j, by omega, hm2, by omega, by go_num, rfl, fun k d hk hd => (by
            rcases Nat.lt_or_ge k m with hmk | hmk
            · exact lessPt_trans (hV.sorted k m d e hmk hd he.out) hl4
            · obtain rfl : m = k := by omega
              rw [he.out] at hd
              obtain rfl := Option.some.inj hd
              exact hl4), hhi.out, by exact bel_, (hb1.cell (p := ⟨w.heap.size, 0, none⟩) hsz).trans hx0, (hb1.cell (p := ⟨w.heap.size, 1, none⟩) hsz).trans hx1, Nat.lt_of_lt_of_le hsz hb1.size⟩
    · obtain rfl : i = j := by omega
      by_cases hin : i < n'
      · obtain ⟨b, o, rfl, hb, hc⟩ := g2.ptr (by omega)
        obtain ⟨e, he⟩ := g2.get (k := i) (by omega)
        obtain ⟨c0, c1, c2⟩ := hc i e he
        have he := Lib.hid he
        clear hc g2
        by_cases hxy : e.x = x ∧ e.y = y
        · obtain ⟨hx, hy⟩ := hxy
          have hP := Lib.hid (IsPlace.eq hV (place_found he.out hx hy))
          subst hx hy
          go_wp2
          refine wp_region_ord [(0, .q), (1, .q), (2, .q), (3, .q), (4, .q), (5, .q), (6, .q), (7, .q), (8, .q), (9, .q), (10, .q), (11, .q), (12, .q), (13, .q), (14, .q), (15, .q), (16, .q), (17, .q), (18, .q)] (by kernel_rfl) (by kernel_rfl) ?_
          simp only [pick, List.filterMap_cons, List.filterMap_nil, List.getElem?_toArray, List.getElem?_cons_zero, List.getElem?_cons_succ, Option.map_some]
          repeat (first
            | ((with_reducible refine wpD_p (fun K hK => ?_)); go_simp; refine hK _ ?_; clear hK K)
            | ((with_reducible refine wpD_q (fun K hK => ?_)); go_simp; (first | refine hK _ ?_ | (go_bits; refine hK _ ?_) | (go_bits; go_simp; refine hK _ ?_)); clear hK K)
            | ((with_reducible refine wpD_g (fun K hK => ?_)); go_simp; refine hK _ _ ?_; clear hK K)
            | ((with_reducible refine wpD_g (fun K hK => ?_)); go_simp; refine ⟨Grew.of_alloc _, hK _ _ ?_⟩; clear hK K))
          with_reducible refine wpD_nil ?_
          go_wp2
          go_ret
          exact ⟨ret_int hP.out, by exact bel_⟩
        · have hP := Lib.hid (IsPlace.eq hV (place_none hV hlo.out hhi.out (fun d hd => by rw [he.out] at hd; obtain rfl := Option.some.inj hd; exact hxy)))
          by_cases hx : e.x = x
          · have hy : ¬ e.y = y := fun h => hxy ⟨hx, h⟩
            subst hx
            have hy' : (e.y == y) = false := by simpa using hy
            go_wp2
            refine wp_region_ord [(0, .q), (1, .q), (2, .q), (3, .q), (4, .q), (5, .q), (6, .q), (7, .q), (8, .q), (9, .q), (10, .q), (11, .q), (12, .q), (13, .q), (14, .q), (15, .q), (16, .q), (17, .q), (18, .q)] (by kernel_rfl) (by kernel_rfl) ?_
            simp only [pick, List.filterMap_cons, List.filterMap_nil, List.getElem?_toArray, List.getElem?_cons_zero, List.getElem?_cons_succ, Option.map_some]
            repeat (first
              | ((with_reducible refine wpD_p (fun K hK => ?_)); go_simp; refine hK _ ?_; clear hK K)
              | ((with_reducible refine wpD_q (fun K hK => ?_)); go_simp; (first | refine hK _ ?_ | (go_bits; refine hK _ ?_) | (go_bits; go_simp; refine hK _ ?_)); clear hK K)
              | ((with_reducible refine wpD_g (fun K hK => ?_)); go_simp; refine hK _ _ ?_; clear hK K)
              | ((with_reducible refine wpD_g (fun K hK => ?_)); go_simp; refine ⟨Grew.of_alloc _, hK _ _ ?_⟩; clear hK K))
            with_reducible refine wpD_nil ?_
            go_wp2
            go_ret
            exact ⟨ret_int hP.out, by exact bel_⟩
          · have hx' : (e.x == x) = false := by simpa using hx
            go_wp2
            refine wp_region_ord [(0, .q), (1, .q), (2, .q), (3, .q), (4, .q), (5, .q), (6, .q), (7, .q), (8, .q), (9, .q), (10, .q), (11, .q), (12, .q), (13, .q), (14, .q), (15, .q), (16, .q), (17, .q), (18, .q)] (by kernel_rfl) (by kernel_rfl) ?_
            simp only [pick, List.filterMap_cons, List.filterMap_nil, List.getElem?_toArray, List.getElem?_cons_zero, List.getElem?_cons_succ, Option.map_some]
            repeat (first
              | ((with_reducible refine wpD_p (fun K hK => ?_)); go_simp; refine hK _ ?_; clear hK K)
              | ((with_reducible refine wpD_q (fun K hK => ?_)); go_simp; (first | refine hK _ ?_ | (go_bits; refine hK _ ?_) | (go_bits; go_simp; refine hK _ ?_)); clear hK K)
              | ((with_reducible refine wpD_g (fun K hK => ?_)); go_simp; refine hK _ _ ?_; clear hK K)
              | ((with_reducible refine wpD_g (fun K hK => ?_)); go_simp; refine ⟨Grew.of_alloc _, hK _ _ ?_⟩; clear hK K))
            with_reducible refine wpD_nil ?_
            go_wp2
            go_ret
            exact ⟨ret_int hP.out, by exact bel_⟩
      · have hP := Lib.hid (IsPlace.eq hV (place_none hV hlo.out hhi.out (fun d hd => by have := lt_of_get hd; omega)))
        clear g2
        go_wp2
        refine wp_region_ord [(0, .q), (1, .q), (2, .q), (3, .q), (4, .q), (5, .q), (6, .q), (7, .q), (8, .q), (9, .q), (10, .q), (11, .q), (12, .q), (13, .q), (14, .q), (15, .q), (16, .q), (17, .q), (18, .q)] (by kernel_rfl) (by kernel_rfl) ?_
        simp only [pick, List.filterMap_cons, List.filterMap_nil, List.getElem?_toArray, List.getElem?_cons_zero, List.getElem?_cons_succ, Option.map_some]
        repeat (first
          | ((with_reducible refine wpD_p (fun K hK => ?_)); go_simp; refine hK _ ?_; clear hK K)
          | ((with_reducible refine wpD_q (fun K hK => ?_)); go_simp; (first | refine hK _ ?_ | (go_bits; refine hK _ ?_) | (go_bits; go_simp; refine hK _ ?_)); clear hK K)
          | ((with_reducible refine wpD_g (fun K hK => ?_)); go_simp; refine hK _ _ ?_; clear hK K)
          | ((with_reducible refine wpD_g (fun K hK => ?_)); go_simp; refine ⟨Grew.of_alloc _, hK _ _ ?_⟩; clear hK K))
        with_reducible refine wpD_nil ?_
        go_wp2
        go_ret
        exact ⟨ret_int hP.out, by exact bel_⟩
end Go.Proofs.Ytpnahobgmemdjaa
/- Plain facts: bonds read from a row; flows. -/


namespace Go.Proofs.Ytpnahobgmemdjaa
open Go.RowKit
def RBd (w : World) (b o : Nat) (e : Bd) : Prop := w.cell? ⟨b, o, none⟩ = some (.int .i64 (e.a : Int)) ∧ w.cell? ⟨b, o + 1, none⟩ = some (.int .i64 (e.b : Int)) ∧ w.cell? ⟨b, o + 2, none⟩ = some (.int .i64 e.s)
theorem RBd.stable : Stable RBd := fun _ _ _ _ _ h hb hw =>
  ⟨(hw.cell (by exact hb)).trans h.1, (hw.cell (by exact hb)).trans h.2.1, (hw.cell (by exact hb)).trans h.2.2⟩
theorem bdCells_get : ∀ (bs : List Bd) (k : Nat) (e : Bd), bs[k]? = some e → (bdCells bs)[k * 3]? = some (.int .i64 (e.a : Int)) ∧ (bdCells bs)[k * 3 + 1]? = some (.int .i64 (e.b : Int)) ∧ (bdCells bs)[k * 3 + 2]? = some (.int .i64 e.s)
  | [], k, e, h => by simp at h
  | b :: bs, 0, e, h => by
    simp at h
    subst h
    simp [bdCells]
  | b :: bs, k + 1, e, h => by
    have := bdCells_get bs k e (by simpa using h)
    have h3 : (k + 1) * 3 = k * 3 + 1 + 1 + 1 := by omega
    rw [h3]
    simpa [bdCells, Nat.add_assoc] using this
theorem rd_of_row {W : World} {base : Nat} {T : TypeId} {v : Value} {bs : List Bd} (h : W.ownsRow base T 3 v bs.length (bdCells bs)) : ∃ A cap, v = .slice A bs.length cap ∧ RdSl 3 RBd W A bs.length bs := by
  rcases h.2 with ⟨rfl, h0⟩ | ⟨g, cap, cur, rfl, hb, hh, hn, hm, hs, ht⟩
  · exact ⟨none, 0, by rw [h0], rfl, fun hp => by omega⟩
  · refine ⟨_, cap, rfl, rfl, fun hp => ⟨g, 0, rfl, (Array.getElem?_eq_some_iff.1 hh).1, fun k hk => ?_⟩⟩
    have hg := bdCells_get bs k _ (List.getElem?_eq_getElem hk)
    rw [← ht] at hg
    have hcell : ∀ j u, (cur.toList.take (bs.length * 3))[j]? = some u → W.cell? ⟨g, j, none⟩ = some u := fun j u hj => by
      rw [List.getElem?_take] at hj
      split at hj
      · simp only [World.cell?, hh]
        simpa using hj
      · cases hj
    rw [Nat.zero_add]
    exact ⟨hcell _ _ hg.1, hcell _ _ hg.2.1, hcell _ _ hg.2.2⟩
/-- what has left place t behind k bonds -/
def leaf (bs : List Bd) (fl : List Int) (t : Nat) : Nat → Int
  | 0 => 0
  | k + 1 => match bs[k]?, fl[k]? with
    | some b, some f => (leaf bs fl t k + (if t = b.a then f else 0)) - (if t = b.b then f else 0)
    | _, _ => leaf bs fl t k
theorem leaf_succ {bs : List Bd} {fl : List Int} {t k : Nat} {b : Bd} {f : Int} (hb : bs[k]? = some b) (hf : fl[k]? = some f) : leaf bs fl t (k + 1) = (leaf bs fl t k + (if t = b.a then f else 0)) - (if t = b.b then f else 0) := by
  simp only [leaf, hb, hf]
def okFlow (bs : List Bd) (fl : List Int) (k : Nat) : Bool := match bs[k]?, fl[k]? with
  | some b, some f => inB f (-b.s) b.s
  | _, _ => true
theorem okFlow_eq {bs : List Bd} {fl : List Int} {k : Nat} {b : Bd} {f : Int} (hb : bs[k]? = some b) (hf : fl[k]? = some f) : okFlow bs fl k = inB f (-b.s) b.s := by
  simp only [okFlow, hb, hf]
def okLeaf (bs : List Bd) (fl : List Int) (x y : Int) (t : Nat) : Bool := decide (leaf bs fl t bs.length = 0) || (decide ((t : Int) = x) || decide ((t : Int) = y))
noncomputable def checkFlowR (gs : List Gl) (ts : List Ti) (xs : List Pl) (x y : Int) (fl : List Int) : Int × Int :=
  if cutCodeI (validAsmB gs ts xs) xs.length x y ≠ 0 then (0, cutCodeI (validAsmB gs ts xs) xs.length x y)
  else if fl.length ≠ (bondsL gs ts xs).length then (0, 10)
  else if allB (bondsL gs ts xs).length (okFlow (bondsL gs ts xs) fl) = false then (0, 10)
  else if allB xs.length (okLeaf (bondsL gs ts xs) fl x y) = false then (0, 10)
  else (leaf (bondsL gs ts xs) fl x.toNat (bondsL gs ts xs).length, 0)
theorem strI_le {gs : List Gl} {ts : List Ti} {xs : List Pl} (hV : Valid gs ts xs) (v : Int) : strI gs v ≤ 4 := by
  unfold strI
  split
  · decide
  · split
    · decide
    · rename_i g hg
      exact (hV.str _ _ hg).2
theorem bondI_le {gs : List Gl} {ts : List Ti} {xs : List Pl} (hV : Valid gs ts xs) (a d b : Nat) : bondI gs ts a d b ≤ 4 := by
  unfold bondI
  split
  · exact strI_le hV _
  · decide
theorem bondsL_at {gs : List Gl} {ts : List Ti} {xs : List Pl} (hV : Valid gs ts xs) {k : Nat} {b : Bd} (h : (bondsL gs ts xs)[k]? = some b) : b.a < xs.length ∧ b.b < xs.length ∧ 0 < b.s ∧ b.s ≤ 4 := by
  have hm := List.mem_of_getElem? h
  unfold bondsL bdL at hm
  obtain ⟨⟨⟨i, j, d⟩, hi, hj, hd⟩, _, hx⟩ := List.mem_filterMap.1 hm
  split at hx
  · rename_i hp
    obtain rfl := Option.some.inj hx
    exact ⟨hi, hj, hp, bondI_le hV _ _ _⟩
  · cases hx
theorem nb_ne {xs : List Pl} {i d : Nat} (hd : d < 4) {x : NbT xs} (h : x ∈ nb xs i d) : x.1.1 ≠ x.1.2.1 := by
  unfold nb at h
  cases he : xs[i]? with
  | none => simp only [he] at h; cases h
  | some e =>
    simp only [he] at h
    split at h
    · rename_i hh
      obtain rfl := List.mem_singleton.1 h
      intro heq
      dsimp only at heq
      rcases placeI_is xs (stepX e.x d) (stepY e.y d) with ⟨h1, _⟩ | ⟨k, e', h1, he', hx, hy⟩
      · omega
      · have hk : k = i := by omega
        rw [hk, he] at he'
        obtain rfl := Option.some.inj he'
        unfold stepX at hx
        unfold stepY at hy
        have : d = 0 ∨ d = 1 ∨ d = 2 ∨ d = 3 := by omega
        rcases this with rfl | rfl | rfl | rfl <;> simp at hx hy <;> omega
    · cases h
theorem nbAll_ne {xs : List Pl} {n : Nat} {x : NbT xs} (h : x ∈ nbAll xs n) : x.1.1 ≠ x.1.2.1 := by
  induction n with
  | zero => simp [nbAll] at h
  | succ n ih =>
    simp only [nbAll, List.mem_append] at h
    rcases h with h | h | h
    · exact ih h
    · exact nb_ne (by decide) h
    · exact nb_ne (by decide) h
theorem bondsL_ne {gs : List Gl} {ts : List Ti} {xs : List Pl} {k : Nat} {b : Bd} (h : (bondsL gs ts xs)[k]? = some b) : b.a ≠ b.b := by
  have hm := List.mem_of_getElem? h
  unfold bondsL bdL at hm
  obtain ⟨x, hx, hb⟩ := List.mem_filterMap.1 hm
  have := nbAll_ne hx
  split at hb
  · obtain rfl := Option.some.inj hb
    exact this
  · cases hb
theorem cutCodeI_zero {v : Bool} {n x y : Int} (h : cutCodeI v n x y = 0) : v = true ∧ (0 ≤ x ∧ x ≤ n - 1) ∧ (0 ≤ y ∧ y ≤ n - 1) ∧ x ≠ y := by
  unfold cutCodeI at h
  split at h
  · split at h
    · rename_i hv hc
      simp only [Bool.and_eq_true, inB_true, Bool.not_eq_true', beq_eq_false_iff_ne] at hc
      exact ⟨hv, hc.1, hc.2.1, hc.2.2⟩
    · cases h
  · cases h
theorem bondsL_len {gs : List Gl} {ts : List Ti} {xs : List Pl} (hV : Valid gs ts xs) : (bondsL gs ts xs).length ≤ 1000 := by
  have h1 := bdL_len gs ts (nbAll xs xs.length)
  have h2 := nbAll_len xs xs.length
  have h3 := hV.len
  unfold bondsL
  omega
theorem leaf_bound {bs : List Bd} {fl : List Int} {k : Nat} (hs : ∀ (j : Nat) (b : Bd), bs[j]? = some b → b.s ≤ 4) (h : ∀ j, j < k → okFlow bs fl j = true) (t : Nat) : -(8 * (k : Int)) ≤ leaf bs fl t k ∧ leaf bs fl t k ≤ 8 * (k : Int) := by
  induction k with
  | zero => simp [leaf]
  | succ k ih =>
    have ih := ih (fun j hj => h j (by omega))
    have hk := h k (by omega)
    cases hb : bs[k]? with
    | none => simp only [leaf, hb]; omega
    | some b =>
      cases hf : fl[k]? with
      | none => simp only [leaf, hb, hf]; omega
      | some f =>
        rw [leaf_succ hb hf]
        rw [okFlow_eq hb hf, inB_true] at hk
        have := hs k b hb
        split <;> split <;> omega
end Go.Proofs.Ytpnahobgmemdjaa
/- Small words: cells behind draws; what is asked of a set and an assembly. -/




namespace Go.Proofs.Ytpnahobgmemdjaa
open Go.RowKit
theorem BelowBy.cell_drew2 {W : World} (p : BelowBy W.drew.drew) (b o : Nat) (h : b < W.heap.size) : p.world.cell? ⟨b, o, none⟩ = W.cell? ⟨b, o, none⟩ := p.h.cell h
theorem BelowBy.cell_drew3 {W : World} (p : BelowBy W.drew.drew.drew) (b o : Nat) (h : b < W.heap.size) : p.world.cell? ⟨b, o, none⟩ = W.cell? ⟨b, o, none⟩ := p.h.cell h
theorem l00In_at {a b c : Int} {v : Bool} {w : World} (h : inB a b c = v) :
    Calls Try.prog 52 #[.int .i64 a, .int .i64 b, .int .i64 c] w fun e w' => e = .returned (.bool v) ∧ w = w' := by
  rw [← h]; exact l00In_any _ _ _ _
def ChkRes (w : World) (r : Int × Int) (e : Ending) (w' : World) : Prop := e = .returned (.tuple #[.int .i64 r.1, .int .i64 r.2]) ∧ Below w.heap.size w w'
theorem ChkRes.of {w : World} {r : Int × Int} {a b : Int} {w' : World} (h : (a, b) = r) (hb : Below w.heap.size w w') : ChkRes w r (.returned (.tuple #[.int .i64 a, .int .i64 b])) w' := by
  subst h; exact ⟨rfl, hb⟩
theorem wrap_in {n : Int} (h1 : -9000000000000000000 ≤ n) (h2 : n ≤ 9000000000000000000) : IntKind.i64.wrap n = n := by
  simp [IntKind.wrap, IntKind.bits, IntKind.signed]; omega
theorem within_at {a b c : Int} {v : Bool} {w : World} (h : inB a b c = v) :
    Calls Try.prog 49 #[.int .i64 a, .int .i64 b, .int .i64 c] w fun e w' => e = .returned (.bool v) ∧ w = w' := by
  rw [← h]; exact within_any _ _ _ _
end Go.Proofs.Ytpnahobgmemdjaa
/- A set and an assembly that came in, and what the functions give on them. -/





namespace Go.Proofs.Ytpnahobgmemdjaa
open Go.RowKit Go.Shelf
attribute [local go_sem] BelowBy.cell BelowBy.cell_drew stillUpon givesUpon

/-- a set and an assembly that came in -/
structure SA (w : World) (G : Option Addr) (n : Nat) (T : Option Addr) (m : Nat) (A : Option Addr) (q : Nat) (gs : List Gl) (ts : List Ti) (xs : List Pl) : Prop where
  G : RdSl 2 RGl w G n gs
  T : RdSl 2 RTi w T m ts
  A : RdSl 3 RPl w A q xs
  gm : n ≤ 1073741824
  tm : m ≤ 1073741824
  q : q ≤ 1073741824
  gn : ∀ (k : Nat) (e : Gl), gs[k]? = some e → e.name.size ≤ 9223372036854775807
  tn : ∀ (k : Nat) (e : Ti), ts[k]? = some e → e.name.size ≤ 9223372036854775807 ∧ e.sides.length ≤ 9223372036854775807
section
variable {w w' : World} {G T A : Option Addr} {n cg m ct q ca : Nat} {gs : List Gl} {ts : List Ti} {xs : List Pl}
theorem SA.below (h : SA w G n T m A q gs ts xs) (hb : Below w.heap.size w w') : SA w' G n T m A q gs ts xs :=
  ⟨h.G.below RGl.stable hb, h.T.below RTi.stable hb, h.A.below RPl.stable hb, h.gm, h.tm, h.q, h.gn, h.tn⟩
/-- the reference looks at them through pointers -/
structure SAt (w : World) (p op pa opa : Nat) (gs : List Gl) (ts : List Ti) (xs : List Pl) : Prop where
  s : SetAt w p op gs ts
  a : AsmAt w pa opa xs
  q : xs.length ≤ 1073741824
  gm : gs.length ≤ 1073741824
  tm : ts.length ≤ 1073741824
  gn : ∀ (k : Nat) (e : Gl), gs[k]? = some e → e.name.size ≤ 9223372036854775807
  tn : ∀ (k : Nat) (e : Ti), ts[k]? = some e → e.name.size ≤ 9223372036854775807 ∧ e.sides.length ≤ 9223372036854775807
theorem SAt.below {op opa : Nat} {p pa : Nat} (h : SAt w p op pa opa gs ts xs) (hb : Below w.heap.size w w') : SAt w' p op pa opa gs ts xs :=
  ⟨h.s.below hb, h.a.below hb, h.q, h.gm, h.tm, h.gn, h.tn⟩
end
theorem codeB_true : codeB true = 0 := rfl
theorem codeB_false : codeB false = 1 := rfl
theorem ownsRow_base {w : World} {base base' : Nat} {e : TypeId} {size : Nat} {v : Value} {n : Nat} {xs : List Value} (h : w.ownsRow base e size v n xs) (hb : base' ≤ base) : w.ownsRow base' e size v n xs :=
  ⟨h.1, h.2.imp id (fun ⟨g, cap, cur, h1, h2, h3⟩ => ⟨g, cap, cur, h1, Nat.le_trans hb h2, h3⟩)⟩
end Go.Proofs.Ytpnahobgmemdjaa
