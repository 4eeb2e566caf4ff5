import Derived.Test.YtmpmokefgdjnkaaGreatKR
import Derived.Test.YtmpmokefgdjnkaaGreatHTo
set_option linter.unusedSimpArgs false
set_option linter.unusedVariables false
/- Walks: BondsOf, the program's and the reference's. -/




namespace Go.Proofs.YtmpmokefgdjnkaaGreat
open Go.RowKit Go.Shelf
attribute [local go_sem] BelowBy.cell BelowBy.cell_drew stillUpon givesUpon BelowBy.cell_drew2 BelowBy.cell_drew3

/-- a row of bonds and a code -/
def BdsRes (w : World) (r : List Bd × Int) (e : Ending) (w' : World) : Prop :=
  ∃ A c, e = .returned (.tuple #[.slice A r.1.length c, .int .i64 r.2]) ∧ w'.ownsRow w.heap.size 100 3 (.slice A r.1.length c) r.1.length (bdCells r.1) ∧ Below w.heap.size w w'
theorem BdsRes.of {w w' : World} {r : List Bd × Int} {bs : List Bd} {c : Int} {v : Value} (h : (bs, c) = r) (hr : w'.ownsRow w.heap.size 100 3 v bs.length (bdCells bs)) (hb : Below w.heap.size w w') : BdsRes w r (.returned (.tuple #[v, .int .i64 c])) w' := by
  subst h
  obtain ⟨A, cap, rfl, _⟩ := rd_of_row hr
  exact ⟨A, cap, rfl, hr, hb⟩
noncomputable def bondsOfR (gs : List Gl) (ts : List Ti) (xs : List Pl) : List Bd × Int := if validAsmB gs ts xs = true then (bondsL gs ts xs, 0) else ([], 1)
theorem bondsOfR_no {gs : List Gl} {ts : List Ti} {xs : List Pl} (h : validAsmB gs ts xs = false) : (([], 1) : List Bd × Int) = bondsOfR gs ts xs := by unfold bondsOfR; rw [h, if_neg (by decide)]
theorem bondsOfR_yes {gs : List Gl} {ts : List Ti} {xs : List Pl} (h : validAsmB gs ts xs = true) : ((bondsL gs ts xs, 0) : List Bd × Int) = bondsOfR gs ts xs := by unfold bondsOfR; rw [h, if_pos rfl]
end Go.Proofs.YtmpmokefgdjnkaaGreat
/- Walk: the program's MismatchesOf. -/

namespace Go.Proofs.YtmpmokefgdjnkaaGreat
open Go.RowKit Go.Shelf
attribute [local go_sem] BelowBy.cell BelowBy.cell_drew stillUpon givesUpon Oper.semAt_some BelowBy.cell_drew2 BelowBy.cell_drew3

def misT (ts : List Ti) {xs : List Pl} (x : NbT xs) : Bool := decide (sideI ts (tileN xs x.1.1) x.1.2.2 ≠ sideI ts (tileN xs x.1.2.1) (oppN x.1.2.2))
def misL (ts : List Ti) {xs : List Pl} (l : List (NbT xs)) : List Bd := l.filterMap fun x => if misT ts x = true then some ⟨x.1.1, x.1.2.1, 0⟩ else none
theorem misL_hit {ts : List Ti} {xs : List Pl} (l : List (NbT xs)) {x : NbT xs} (h : misT ts x = true) : misL ts (l ++ [x]) = misL ts l ++ [⟨x.1.1, x.1.2.1, 0⟩] := by
  simp [misL, h]
theorem misL_miss {ts : List Ti} {xs : List Pl} (l : List (NbT xs)) {x : NbT xs} (h : misT ts x = false) : misL ts (l ++ [x]) = misL ts l := by
  simp [misL, h]
theorem misL_len (ts : List Ti) {xs : List Pl} (l : List (NbT xs)) : (misL ts l).length ≤ l.length := List.length_filterMap_le _ _
noncomputable def missR (gs : List Gl) (ts : List Ti) (xs : List Pl) : List Bd × Int := if validAsmB gs ts xs = true then (misL ts (nbAll xs xs.length), 0) else ([], 1)
theorem missR_no {gs : List Gl} {ts : List Ti} {xs : List Pl} (h : validAsmB gs ts xs = false) : (([], 1) : List Bd × Int) = missR gs ts xs := by unfold missR; rw [h, if_neg (by decide)]
theorem missR_yes {gs : List Gl} {ts : List Ti} {xs : List Pl} (h : validAsmB gs ts xs = true) : ((misL ts (nbAll xs xs.length), 0) : List Bd × Int) = missR gs ts xs := by unfold missR; rw [h, if_pos rfl]
/-- the cell of a tile's side -/
theorem side_cell {w : World} {B : Option Addr} {m : Nat} {ts : List Ti} {gs : List Gl} {xs : List Pl} (h4 : RdSl 2 RTi w B m ts) (hV : Valid gs ts xs) {a : Nat} (ha : a < ts.length) {b o : Nat} (hB : B = some ⟨b, o, none⟩) :
    ∃ b2 o2 c, w.cell? ⟨b, o + a * 2 + 1, none⟩ = some (.slice (some ⟨b2, o2, none⟩) 4 c) ∧ b2 < w.heap.size ∧ ∀ d, d < 4 → w.cell? ⟨b2, o2 + d, none⟩ = some (.int .i64 (sideI ts a d)) := by
  have ham : a < m := by rw [← h4.len]; exact ha
  obtain ⟨bl, o', hB', hbl, hc⟩ := h4.ptr (by omega)
  rw [hB] at hB'
  obtain ⟨rfl, rfl⟩ : b = bl ∧ o = o' := by injection hB' with h; injection h with h1 h2; exact ⟨h1, h2⟩
  obtain ⟨ta, hta⟩ := h4.get ham
  obtain ⟨a0, SA, sn, sc, a1, hsa⟩ := hc a ta hta
  have hsn : sn = 4 := by rw [← hsa.len]; exact hV.four a ta hta
  subst hsn
  obtain ⟨ba, oa, rfl, hba, hca⟩ := hsa.ptr (by omega)
  refine ⟨ba, oa, sc, a1, hba, fun d hd => ?_⟩
  obtain ⟨va, hva⟩ := hsa.get hd
  have ca := hca d _ hva
  simp only [RInt, Nat.mul_one] at ca
  rw [sideI_eq hta hva]; exact ca
set_option maxRecDepth 100000 in
set_option maxHeartbeats 1000000 in
theorem mis_in (n : Nat) (G T A : Option Addr) (ng cg m ct q ca : Nat) (gs : List Gl) (ts : List Ti) (xs : List Pl) (w : World) (hSA : SA w G ng T m A q gs ts xs) (hv : validAsmB gs ts xs = true) (hn : 3 ≤ n) :
    CallsIn Fence.wide n Tryz.prog 31 #[.agg #[.slice G ng cg, .slice T m ct], .agg #[.slice A q ca]] w (BdsRes w (misL ts (nbAll xs xs.length), 0)) := by
  have h1 : 1 ≤ n := by omega
  obtain ⟨i0, hi, hz0, hz1, hz2⟩ := info_parts infoBond
  have hV := valid_of hv
  have hvH := Lib.hid hv
  have hSA := Lib.hid hSA
  rename_i hSA0
  clear hv hSA0
  refine callsIn_of_wp_marks Tryz.func31 rfl trivial ?_ rfl
  simp only [Tryz.ntmps31, List.size_toArray, List.length_cons, List.length_nil, Nat.reduceAdd, Nat.reduceSub, Array.replicate_succ, Array.replicate_zero, List.push_toArray, List.append_toArray, List.nil_append, List.cons_append]
  gi_wp2_with (refine ⟨trivial, ?_⟩; gi_at_call 56; refine (callsIn_wide.2 ((hSA.out.below (by exact bel_)).valid hvH.out)).mono ?_; rintro e w1 ⟨rfl, hb1⟩; obtain ⟨chb1, fhb1, shb1, thb1⟩ := bcell hb1; have bhb1 := shb1 (w.heap.size + 1) (by go_simp); have ahb1 := shb1 w.heap.size (by go_simp))
  have hS1 := hSA.out.below (show Below w.heap.size w w1 by exact bel_)
  have bS1 : w1.heap[w.heap.size]? = some (Obj.cells #[Value.slice G ng cg, Value.slice T m ct] 40) := (hb1.block _ (by simp; omega)).trans ((Below.heap_alloc _ _ _ (by simp)).trans (World.alloc_heap_new _ _))
  have bA1 : w1.heap[w.heap.size + 1]? = some (Obj.cells #[Value.slice A q ca] 43) := (hb1.block _ (by simp)).trans (by have := World.alloc_heap_new (w.alloc (Obj.cells #[Value.slice G ng cg, Value.slice T m ct] 40)) (Obj.cells #[Value.slice A q ca] 43); simpa only [World.size_alloc] using this)
  have hBw : Below w.heap.size w w1 := by exact bel_
  have hS1 := Lib.hid hS1
  rename_i hS10
  clear hS10 hb1
  gi_wp2_with (refine ⟨trivial, ?_⟩; gi_at_call 54; refine (callsIn_wide.2 (neighbors_any _ _ _ _)).mono ?_; rintro e w' ⟨rfl, rfl⟩)
  obtain ⟨W0, hW0⟩ : ∃ W0, W0 = (w1.alloc (Obj.cells #[Value.slice none 0 0] 66)).alloc (Obj.cells #[Value.slice A q ca] 43) := ⟨_, rfl⟩
  have hsz : W0.heap.size = w1.heap.size + 2 := by rw [hW0]; simp
  have hB10 : Below w1.heap.size w1 W0 := by rw [hW0]; exact bel_
  have hB0 : Below w.heap.size w W0 := bl_tr hBw hB10
  have bS : W0.heap[w.heap.size]? = some (Obj.cells #[Value.slice G ng cg, Value.slice T m ct] 40) := (hB10.block _ ahb1).trans bS1
  have bA : W0.heap[w.heap.size + 1]? = some (Obj.cells #[Value.slice A q ca] 43) := (hB10.block _ bhb1).trans bA1
  have bO' : Boxed W0 w1.heap.size 66 (.slice none 0 0) := by
    rw [hW0]
    exact (Below.heap_alloc _ _ _ (by simp)).trans (World.alloc_heap_new _ _)
  have bN : W0.heap[w1.heap.size + 1]? = some (Obj.cells #[Value.slice A q ca] 43) := by
    rw [hW0]
    have := World.alloc_heap_new (w1.alloc (Obj.cells #[Value.slice none 0 0] 66)) (Obj.cells #[Value.slice A q ca] 43)
    simpa only [World.size_alloc] using this
  rw [← hW0]
  have hS0 := hSA.out.below hB0
  have hA0 := hSA.out.A
  have hws : w.heap.size + 2 ≤ w1.heap.size := by omega
  clear hW0 hB10 chb1 fhb1 shb1 thb1 bS1 bA1
  refine wpIn_rangeFunc_ownH rfl h1 (gf := 84) (lb := #[.pointer (some ⟨w1.heap.size + 1, 0, none⟩)]) rfl trivial (enters_of Tryz.func84 (by kernel_rfl) rfl)
    (neighbors_stops (n - 1) (w1.heap.size + 1) w.heap.size A q ca gs ts xs hV W0 (by omega) bN hS0.A (fun hq b o hA' => by
      obtain ⟨b', o', e', hb', _⟩ := hA0.cells hq
      rw [hA'] at e'
      obtain rfl : b = b' := by simpa using (congrArg (fun x => x.map Addr.block) e')
      exact hb')) (fun h k => KpN.t h k) (KpN.b (by omega)) (Below.refl _ _) (fun _ => rfl)
    (fun pre W => ((∃ v, Boxed W w1.heap.size 66 v ∧ W.ownsRow w.heap.size 100 3 v (misL ts pre).length (bdCells (misL ts pre)) ∧ True) ∧ (W.heap[w.heap.size]? = some (Obj.cells #[Value.slice G ng cg, Value.slice T m ct] 40) ∧ W.heap[w.heap.size + 1]? = some (Obj.cells #[Value.slice A q ca] 43))) ∧ Below w.heap.size w W)
    (fun _ _ _ => False)
    (OwnFrom.and (OwnFrom.and (Own.from (holdsRow_own w.heap.size w1.heap.size 66 100 3 (fun pre => (misL ts pre).length) (fun pre => bdCells (misL ts pre)) (fun _ _ => True)) _) (OwnFrom.and (Own.from (heap_own _ _ _) _) (Own.from (heap_own _ _ _) _))) (ownFrom_below (Nat.le_refl _) (by omega)))
    (fun _ _ _ _ _ hs _ _ => hs)
    ⟨⟨⟨_, bO', World.ownsRow_nil _ _ _ _, trivial⟩, bS, bA⟩, hB0⟩
    (fun x a' W => ∃ Bx, True ∧ W.heap[Bx]? = some (Obj.cells #[.int .i64 (x.1.1 : Int), .int .i64 (x.1.2.1 : Int)] 115) ∧ a' = { tmps := #[.agg #[.slice G ng cg, .slice T m ct], .agg #[.slice A q ca], .pointer (some ⟨w.heap.size, 0, none⟩), .pointer (some ⟨w.heap.size + 1, 0, none⟩), .slice none 0 0, .int .i64 0, .pointer (some ⟨w1.heap.size, 0, none⟩), .pointer (some ⟨Bx, 0, none⟩), .int .i64 (x.1.2.2 : Int), undef, undef, .agg #[.slice G ng cg, .slice T m ct], .agg #[.slice A q ca], .bool true, .bool false, .agg #[.slice A q ca], .func (.func 84) #[] #[.pointer (some ⟨w1.heap.size + 1, 0, none⟩)], .agg #[.int .i64 (x.1.1 : Int), .int .i64 (x.1.2.1 : Int)], .int .i64 (x.1.2.2 : Int), undef, undef, undef, undef, undef, undef, undef, undef, undef, undef, undef, undef, undef, undef, undef, undef, undef, undef, undef, undef, undef, undef, undef, undef, undef, undef, undef, undef, undef, undef, undef, undef, undef, undef, undef, undef, undef, undef, undef, undef, undef, undef, undef], defers := [] })
    (fun x a' _ X Y row hs hg hr => by obtain ⟨Bx, h1, h2, h3⟩ := hs; exact ⟨Bx, h1, heap_own Bx _ _ () X Y row h2 hg (fun r e => (hr r e).2), h3⟩)
    ?assign ?body ?done ?stop
  case assign =>
    rintro l pre x W K ⟨⟨⟨v, bv, hrow, -⟩, bs, ba⟩, hB⟩ hK
    have hlt2 := bv.lt
    simp only [encN]
    gi_wp2
    refine hK _ _ (KeepsFrom.of_below (by exact bel_)) ⟨Below.mono (by exact bel_) hB.size, KeepT.of_below (by exact bel_)⟩ ⟨⟨⟨v, bv.alloc _, hrow.alloc _, trivial⟩, ?_, ?_⟩, by exact bel_⟩ ⟨W.heap.size, trivial, World.alloc_heap_new _ _, rfl⟩
    · exact (Below.heap_alloc _ _ _ (by omega)).trans bs
    · exact (Below.heap_alloc _ _ _ (by omega)).trans ba
  case body =>
    rintro l pre x a' W hl - ⟨⟨⟨v, bv, hrow, -⟩, bs, ba⟩, hB⟩ ⟨Bx, hBx, bX, rfl⟩ hlt
    have hlt2 := bv.lt
    have cO := bv.cell
    have fO := bv.frozen
    have cs0 : W.cell? ⟨w.heap.size, 0, none⟩ = some (.slice G ng cg) := by simp [World.cell?, bs]
    have cs1 : W.cell? ⟨w.heap.size, 1, none⟩ = some (.slice T m ct) := by simp [World.cell?, bs]
    have ca0 : W.cell? ⟨w.heap.size + 1, 0, none⟩ = some (.slice A q ca) := by simp [World.cell?, ba]
    have cx0 : W.cell? ⟨Bx, 0, none⟩ = some (.int .i64 (x.1.1 : Int)) := by simp [World.cell?, bX]
    have cx1 : W.cell? ⟨Bx, 1, none⟩ = some (.int .i64 (x.1.2.1 : Int)) := by simp [World.cell?, bX]
    have l0 : w.heap.size < W.heap.size := by omega
    have l1 : w.heap.size + 1 < W.heap.size := by omega
    have hBxl : Bx < W.heap.size := (Array.getElem?_eq_some_iff.1 bX).1
    obtain ⟨⟨i, k, d⟩, hi', hk', hd'⟩ := x
    dsimp only at cx0 cx1 hi' hk' hd' ⊢
    have hlA := hSA.out.A.len
    have hSW := hSA.out.below hB
    have hAW := hSW.A
    obtain ⟨b, o, rfl, hb, hc⟩ := hAW.ptr (by omega)
    obtain ⟨e1, he1⟩ := hAW.get (k := i) (by omega)
    obtain ⟨e2, he2⟩ := hAW.get (k := k) (by omega)
    obtain ⟨x0, x1, x2⟩ := hc i e1 he1
    obtain ⟨y0, y1, y2⟩ := hc k e2 he2
    obtain ⟨t1, ht1, ht1l⟩ := hV.ti i e1 he1
    obtain ⟨t2, ht2, ht2l⟩ := hV.ti k e2 he2
    rw [ht1] at x2
    rw [ht2] at y2
    have hTl := hSW.T.len
    obtain ⟨bT, oT, rfl, hbT, _⟩ := hSW.T.ptr (by omega)
    obtain ⟨b2, o2, c2, z1, hb2, z2a⟩ := side_cell hSW.T hV ht1l rfl
    obtain ⟨b3, o3, c3, z3, hb3, z4a⟩ := side_cell hSW.T hV ht2l rfl
    have hod : oppN d < 4 := by unfold oppN; split <;> omega
    have hod' : ((oppN d : Nat) : Int) < 4 := by omega
    have hdI : (d : Int) < 4 := by omega
    have hd0 : (0 : Int) ≤ (d : Int) := by omega
    have hod0 : (0 : Int) ≤ ((oppN d : Nat) : Int) := by omega
    have z2 := z2a d hd'
    have z4 := z4a (oppN d) hod
    clear z2a z4a
    have ht1m : t1 < m := by omega
    have ht2m : t2 < m := by omega
    have hs : misT ts (xs := xs) ⟨(i, k, d), hi', hk', hd'⟩ = decide (sideI ts t1 d ≠ sideI ts t2 (oppN d)) := by
      unfold misT tileN
      simp only [he1, he2, ht1, ht2, Int.toNat_natCast]
    obtain ⟨u1, hu1⟩ : ∃ r, sideI ts t1 d = r := ⟨_, rfl⟩
    obtain ⟨u2, hu2⟩ : ∃ r, sideI ts t2 (oppN d) = r := ⟨_, rfl⟩
    rw [hu1, hu2] at hs
    rw [hu1] at z2
    rw [hu2] at z4
    have hsH := Lib.hid hs
    clear hs hu1 hu2 he1 he2 ht1 ht2 hc hAW hSW hS0 hA0
    have hiq : i < q := by omega
    have hkq : k < q := by omega
    have hll := misL_len ts pre
    by_cases hpos : u1 = u2
    · have hp2 : (u1 != u2) = false := by simpa using hpos
      have hsH := Lib.hid (show misT ts (xs := xs) ⟨(i, k, d), hi', hk', hd'⟩ = false by rw [hsH.out]; simpa using hpos)
      clear hpos
      gi_wp2
      refine wpIn_region_ordR [(0, .q), (1, .q), (2, .q), (3, .q), (4, .q), (5, .q), (6, .q), (7, .q), (8, .q), (9, .q), (10, .q), (11, .q), (12, .q), (13, .q), (14, .q), (15, .q)] (by kernel_rfl) (by kernel_rfl) (by kernel_rfl) ?_
      simp only [pick, List.filterMap_cons, List.filterMap_nil, List.getElem?_toArray, List.getElem?_cons_zero, List.getElem?_cons_succ, Option.map_some]
      repeat (first
        | ((with_reducible refine wpD_p (fun K hK => ?_)); go_simp; refine hK _ ?_; clear hK K)
        | ((with_reducible refine wpD_q (fun K hK => ?_)); go_simp; (first | refine hK _ ?_ | (go_bits; refine hK _ ?_) | (go_bits; go_simp; refine hK _ ?_)); clear hK K)
        | ((with_reducible refine wpD_g (fun K hK => ?_)); go_simp; refine hK _ _ ?_; clear hK K)
        | ((with_reducible refine wpD_g (fun K hK => ?_)); go_simp; refine ⟨Grew.of_alloc _, hK _ _ ?_⟩; clear hK K))
      with_reducible refine wpD_nil ?_
      gi_wp2
      refine wpIn_region_ordR [(0, .q), (1, .q), (2, .q), (3, .q), (4, .q), (5, .q), (6, .q), (7, .q), (8, .q), (9, .q), (10, .q), (11, .q), (12, .q), (13, .q), (14, .q), (15, .q), (16, .g), (17, .q), (18, .q), (19, .q)] (by kernel_rfl) (by kernel_rfl) (by kernel_rfl) ?_
      simp only [pick, List.filterMap_cons, List.filterMap_nil, List.getElem?_toArray, List.getElem?_cons_zero, List.getElem?_cons_succ, Option.map_some]
      repeat (first
        | ((with_reducible refine wpD_p (fun K hK => ?_)); go_simp; refine hK _ ?_; clear hK K)
        | ((with_reducible refine wpD_q (fun K hK => ?_)); go_simp; (first | refine hK _ ?_ | (go_bits; refine hK _ ?_) | (go_bits; go_simp; refine hK _ ?_)); clear hK K)
        | ((with_reducible refine wpD_g (fun K hK => ?_)); go_simp; refine hK _ _ ?_; clear hK K)
        | ((with_reducible refine wpD_g (fun K hK => ?_)); go_simp; refine ⟨Grew.of_alloc _, hK _ _ ?_⟩; clear hK K)
        | ((with_reducible refine wpD_g (fun K hK => ?_)); go_simp; go_at_call 57; refine (opposite_any _ _ hd').mono ?_; rintro e _ ⟨rfl, rfl⟩; refine ⟨_, rfl, Below.refl _ _, hK _ _ ?_⟩; clear hK K))
      with_reducible refine wpD_nil ?_
      gi_wp2
      have hbA : Below W.heap.size W W.drew.drew := by exact bel_
      refine ⟨KeepsFrom.of_below hbA, ⟨hbA.mono hB.size, KeepT.of_below hbA⟩, ⟨⟨v, bv, ?_, trivial⟩, bs, ba⟩, hB.trans (hbA.mono hB.size)⟩
      rw [misL_miss pre hsH.out]
      exact hrow
    · have hp2 : (u1 != u2) = true := by simpa using hpos
      have hsH := Lib.hid (show misT ts (xs := xs) ⟨(i, k, d), hi', hk', hd'⟩ = true by rw [hsH.out]; simpa using hpos)
      have hposH := Lib.hid hpos
      clear hpos
      gi_wp2
      refine wpIn_region_ordR [(0, .q), (1, .q), (2, .q), (3, .q), (4, .q), (5, .q), (6, .q), (7, .q), (8, .q), (9, .q), (10, .q), (11, .q), (12, .q), (13, .q), (14, .q), (15, .q)] (by kernel_rfl) (by kernel_rfl) (by kernel_rfl) ?_
      simp only [pick, List.filterMap_cons, List.filterMap_nil, List.getElem?_toArray, List.getElem?_cons_zero, List.getElem?_cons_succ, Option.map_some]
      repeat (first
        | ((with_reducible refine wpD_p (fun K hK => ?_)); go_simp; refine hK _ ?_; clear hK K)
        | ((with_reducible refine wpD_q (fun K hK => ?_)); go_simp; (first | refine hK _ ?_ | (go_bits; refine hK _ ?_) | (go_bits; go_simp; refine hK _ ?_)); clear hK K)
        | ((with_reducible refine wpD_g (fun K hK => ?_)); go_simp; refine hK _ _ ?_; clear hK K)
        | ((with_reducible refine wpD_g (fun K hK => ?_)); go_simp; refine ⟨Grew.of_alloc _, hK _ _ ?_⟩; clear hK K))
      with_reducible refine wpD_nil ?_
      gi_wp2
      refine wpIn_region_ordR [(0, .q), (1, .q), (2, .q), (3, .q), (4, .q), (5, .q), (6, .q), (7, .q), (8, .q), (9, .q), (10, .q), (11, .q), (12, .q), (13, .q), (14, .q), (15, .q), (16, .g), (17, .q), (18, .q), (19, .q)] (by kernel_rfl) (by kernel_rfl) (by kernel_rfl) ?_
      simp only [pick, List.filterMap_cons, List.filterMap_nil, List.getElem?_toArray, List.getElem?_cons_zero, List.getElem?_cons_succ, Option.map_some]
      repeat (first
        | ((with_reducible refine wpD_p (fun K hK => ?_)); go_simp; refine hK _ ?_; clear hK K)
        | ((with_reducible refine wpD_q (fun K hK => ?_)); go_simp; (first | refine hK _ ?_ | (go_bits; refine hK _ ?_) | (go_bits; go_simp; refine hK _ ?_)); clear hK K)
        | ((with_reducible refine wpD_g (fun K hK => ?_)); go_simp; refine hK _ _ ?_; clear hK K)
        | ((with_reducible refine wpD_g (fun K hK => ?_)); go_simp; refine ⟨Grew.of_alloc _, hK _ _ ?_⟩; clear hK K)
        | ((with_reducible refine wpD_g (fun K hK => ?_)); go_simp; go_at_call 57; refine (opposite_any _ _ hd').mono ?_; rintro e _ ⟨rfl, rfl⟩; refine ⟨_, rfl, Below.refl _ _, hK _ _ ?_⟩; clear hK K))
      with_reducible refine wpD_nil ?_
      obtain ⟨w2, hw2⟩ : ∃ w2, w2 = W.drew.drew := ⟨_, rfl⟩
      rw [← hw2]
      have hbA : Below W.heap.size W w2 := by rw [hw2]; exact bel_
      have hB1 : Below w.heap.size w w2 := hB.trans (hbA.mono hB.size)
      have bv' : Boxed w2 w1.heap.size 66 v := (hbA.block _ bv.lt).trans bv
      have hrow' := ownsRow_below hrow hbA
      have cO' := bv'.cell
      have fO' := bv'.frozen
      have cx0' : w2.cell? ⟨Bx, 0, none⟩ = some (.int .i64 (i : Int)) := (hbA.cell (p := ⟨Bx, 0, none⟩) hBxl).trans cx0
      have cx1' : w2.cell? ⟨Bx, 1, none⟩ = some (.int .i64 (k : Int)) := (hbA.cell (p := ⟨Bx, 1, none⟩) hBxl).trans cx1
      have hBx1 : Bx < w2.heap.size := Nat.lt_of_lt_of_le hBxl hbA.size
      have bs' := (KeepT.of_below (t1 := 66) (t2 := 100) hbA) _ _ _ bs (by decide) (by decide)
      have ba' := (KeepT.of_below (t1 := 66) (t2 := 100) hbA) _ _ _ ba (by decide) (by decide)
      have hbAH := Lib.hid hbA
      clear hw2 cO fO cx0 cx1 cs0 cs1 ca0 x0 x1 x2 y0 y1 y2 z1 z2 z3 z4 hbA
      gi_wp2_with (gi_at_builtin; refine wpListIn_append_own _ rfl _ _ 66 rfl w.heap.size 100 i0 (.agg #[.int .i64 0, .int .i64 0, .int .i64 0]) 3 24 Tryz.underlying66 hi hz0 hz1 hz2 rfl (by decide) _ _ _ rfl (hrow'.alloc _) ⟨w2.heap.size, 0, none⟩ 1 1 [.int .i64 i, .int .i64 k, .int .i64 0] rfl rfl (cell_three_new _ _ _ _ _) (fun x hx => by simp at hx; rcases hx with rfl | rfl | rfl <;> rfl) (by unfold maxLen; omega) (by omega) (by have := hB1.size; simp; omega) ?_; intro v' w3 hown' hgrow _; obtain ⟨g', cap', rfl⟩ := ownsRow_succ hown'; obtain ⟨hv1, hv2, hr2, hk2, hb2⟩ := bv'.appended (by decide) hrow' hB1.size (by omega) hown' hgrow; have hc1 := hv1.cell; have hf1 := hv1.frozen)
      have hbA := hbAH.out
      have hKT := KeepT.appended (v' := .slice (some ⟨g', 0, none⟩) ((misL ts pre).length + 1) cap') bv' hrow' hgrow
      refine ⟨(KeepsFrom.of_below hbA).trans (hk2.from _), ⟨(hbA.mono hB.size).trans hb2, (KeepT.of_below hbA).trans hKT⟩, ⟨⟨_, hv2, ?_, trivial⟩, hKT _ _ _ bs' (by decide) (by decide), hKT _ _ _ ba' (by decide) (by decide)⟩, hB1.trans hb2⟩
      rw [misL_hit pre hsH.out, List.length_append, bdCells_snoc]
      exact hr2
  case done =>
    rintro D ys W hD rfl ⟨⟨⟨v, bv, hrow, -⟩, bs, ba⟩, hB⟩ hK
    have hc := bv.cell
    gi_wp2
    refine ⟨by simp, .inl ⟨_, _, rfl, run_takeDeferred hK, ?_⟩⟩
    refine ⟨_, results_tmp2 rfl _ _ _, ?_⟩
    exact BdsRes.of rfl (ownsRow_putObj hrow _ hK rfl) (hB.trans (belowK_b (w := w) (Nat.le_refl _) W D _ _ (by omega) hK rfl rfl))
  case stop =>
    rintro D c pre W _ _ h _
    exact h.elim
set_option maxRecDepth 100000 in
set_option maxHeartbeats 1000000 in
theorem MismatchesOf_any (G T A : Option Addr) (n cg m ct q ca : Nat) (gs : List Gl) (ts : List Ti) (xs : List Pl) (w : World) (h : SA w G n T m A q gs ts xs) :
    Calls Tryz.prog 31 #[.agg #[.slice G n cg, .slice T m ct], .agg #[.slice A q ca]] w (BdsRes w (missR gs ts xs)) := by
  cases hv : validAsmB gs ts xs
  · have hvH := Lib.hid hv
    have hH := Lib.hid h
    clear hv h
    go_enter Tryz.func31, Tryz.ntmps31
    go_wp2_with fail
    refine ((hH.out.below (by exact bel_)).valid hvH.out).mono ?_
    rintro e w1 ⟨rfl, hb1⟩
    go_wp2
    go_ret2
    exact BdsRes.of (missR_no hvH.out) (World.ownsRow_nil _ _ _ _) (by exact bel_)
  · rw [← missR_yes hv]
    exact callsIn_wide.1 (mis_in 3 G T A n cg m ct q ca gs ts xs w h hv (Nat.le_refl _))
end Go.Proofs.YtmpmokefgdjnkaaGreat
/- Walk: the reference's MismatchesOf. -/

namespace Go.Proofs.YtmpmokefgdjnkaaGreat
open Go.RowKit Go.Shelf
attribute [local go_sem] BelowBy.cell BelowBy.cell_drew stillUpon givesUpon BelowBy.cell_drew2 BelowBy.cell_drew3

set_option maxHeartbeats 1000000 in
set_option maxRecDepth 100000 in
theorem l06Misfit_any (p : Nat) (gs : List Gl) (ts : List Ti) (xs : List Pl) (a d b : Nat) (w : World) (hs : SetAt w p 0 gs ts) (hV : Valid gs ts xs) (ha : a < ts.length) (hb : b < ts.length) (hd : d < 4) :
    Calls Tryz.prog 44 #[.pointer (some ⟨p, 0, none⟩), .int .i64 a, .int .i64 d, .int .i64 b] w fun e w' => e = .returned (.bool (decide (sideI ts a d ≠ sideI ts b (oppN d)))) ∧ Below w.heap.size w w' := by
  obtain ⟨hlt, ⟨A, n, c, h1, h2⟩, ⟨B, m, dd, h3, h4⟩⟩ := id hs
  have hl := h4.len
  obtain ⟨bT, oT, rfl, hbT, _⟩ := h4.ptr (by omega)
  obtain ⟨b2, o2, c2, z1, hb2, z2a⟩ := side_cell h4 hV ha rfl
  obtain ⟨b3, o3, c3, z3, hb3, z4a⟩ := side_cell h4 hV hb rfl
  have hod : oppN d < 4 := by unfold oppN; split <;> omega
  have hod' : ((oppN d : Nat) : Int) < 4 := by omega
  have hdI : (d : Int) < 4 := by omega
  have hd0 : (0 : Int) ≤ (d : Int) := by omega
  have hod0 : (0 : Int) ≤ ((oppN d : Nat) : Int) := by omega
  have z2 := z2a d hd
  have z4 := z4a (oppN d) hod
  have ham : a < m := by omega
  have hbm : b < m := by omega
  obtain ⟨u1, hu1⟩ : ∃ r, sideI ts a d = r := ⟨_, rfl⟩
  obtain ⟨u2, hu2⟩ : ∃ r, sideI ts b (oppN d) = r := ⟨_, rfl⟩
  rw [hu1] at z2
  rw [hu2] at z4
  have hr := Lib.hid (show decide (sideI ts a d ≠ sideI ts b (oppN d)) = (u1 != u2) by rw [hu1, hu2, Bool.eq_iff_iff]; simp)
  clear z2a z4a hu1 hu2 hl h2 h4 hs
  go_enter Tryz.func44, Tryz.ntmps44
  go_wp2
  refine wp_region_ord [(0, .q), (1, .q), (2, .q), (3, .q), (4, .q), (5, .q), (6, .q), (7, .q), (8, .q), (9, .q), (10, .q), (11, .q), (12, .q), (13, .q), (14, .q), (15, .q), (16, .q), (17, .q), (18, .q), (19, .q), (20, .g), (21, .q), (22, .q), (23, .q), (24, .q)] (by kernel_rfl) (by kernel_rfl) ?_
  simp only [pick, List.filterMap_cons, List.filterMap_nil, List.getElem?_toArray, List.getElem?_cons_zero, List.getElem?_cons_succ, Option.map_some]
  repeat (first
    | ((with_reducible refine wpD_p (fun K hK => ?_)); go_simp; refine hK _ ?_; clear hK K)
    | ((with_reducible refine wpD_q (fun K hK => ?_)); go_simp; (first | refine hK _ ?_ | (go_bits; refine hK _ ?_) | (go_bits; go_simp; refine hK _ ?_)); clear hK K)
    | ((with_reducible refine wpD_g (fun K hK => ?_)); go_simp; refine hK _ _ ?_; clear hK K)
    | ((with_reducible refine wpD_g (fun K hK => ?_)); go_simp; refine ⟨Grew.of_alloc _, hK _ _ ?_⟩; clear hK K)
    | ((with_reducible refine wpD_g (fun K hK => ?_)); go_simp; go_at_call 76; refine (sOppN_any _ _ hd).mono ?_; rintro e _ ⟨rfl, rfl⟩; refine ⟨_, rfl, Below.refl _ _, hK _ _ ?_⟩; clear hK K))
  with_reducible refine wpD_nil ?_
  go_wp2
  go_ret
  exact ⟨ret_bool hr.out.symm, by exact bel_⟩
theorem l06Misfit_at {p : Nat} {gs : List Gl} {ts : List Ti} {xs : List Pl} {a b : Int} {d : Nat} {r : Bool} {w : World} (an bn : Nat) (h1 : a = an) (h2 : b = bn) (hs : SetAt w p 0 gs ts) (hV : Valid gs ts xs) (ha : an < ts.length) (hb : bn < ts.length) (hd : d < 4) (hr : decide (sideI ts an d ≠ sideI ts bn (oppN d)) = r) :
    Calls Tryz.prog 44 #[.pointer (some ⟨p, 0, none⟩), .int .i64 a, .int .i64 d, .int .i64 b] w fun e w' => e = .returned (.bool r) ∧ Below w.heap.size w w' := by
  subst h1 h2 hr; exact l06Misfit_any p gs ts xs _ _ _ w hs hV ha hb hd
theorem cell_three_new0 (w : World) (a b : Value) (t : TypeId) : ∀ j u, [a, b, Value.int .i64 0][j]? = some u → (w.alloc (.cells #[a, b, .int .i64 0] t)).cell? ((⟨w.heap.size, 0, none⟩ : Addr).add j) = some u := cell_three_new w a b _ t
set_option maxHeartbeats 1000000 in
set_option maxRecDepth 100000 in
theorem l06Misfits_any (p pa : Nat) (gs : List Gl) (ts : List Ti) (xs : List Pl) (w : World) (hs : SetAt w p 0 gs ts) (ha : AsmAt w pa 0 xs) (hV : Valid gs ts xs) :
    Calls Tryz.prog 21 #[.pointer (some ⟨p, 0, none⟩), .pointer (some ⟨pa, 0, none⟩)] w fun e W' => ∃ v, e = .returned v ∧ W'.ownsRow w.heap.size 100 3 v (misL ts (nbAll xs xs.length)).length (bdCells (misL ts (nbAll xs xs.length))) ∧ Below w.heap.size w W' := by
  obtain ⟨i0, hi, hz0, hz1, hz2⟩ := info_parts infoBond
  have h5 := hV.len
  obtain ⟨plt, A, n, c, h1, h2⟩ := id ha
  have hl := h2.len
  go_enter Tryz.func21, Tryz.ntmps21
  go_wp2
  go_loopg [6, 5] n (fun r x out wr => ∃ k : Nat, k + r = n ∧ x = .int .i64 k ∧ wr.ownsRow w.heap.size 100 3 out (misL ts (nbAll xs k)).length (bdCells (misL ts (nbAll xs k))) ∧ Below w.heap.size w wr)
  case atStart => exact ⟨0, by omega, rfl, World.ownsRow_made _ _ _ (Nat.le_refl _) (by decide) rfl, by exact bel_⟩
  case round =>
    obtain ⟨i, hk, rfl, hrow, hbw⟩ := hrel
    obtain ⟨plt', A', n', c', g1, g2⟩ := ha.below hbw
    obtain rfl : n' = n := by rw [← g2.len]; exact hl
    by_cases hin : i < n'
    · obtain ⟨e, he⟩ := g2.get hin
      have heH := Lib.hid he
      clear he h1 h2
      go_wp2
      obtain ⟨W0, hW0⟩ : ∃ W0, W0 = wr := ⟨_, rfl⟩
      subst hW0
      go_loopg [7, 5] 2 (fun r x out wr => ∃ (j : Nat) (D : Int), j + r = 2 ∧ D = 1 - (j : Int) ∧ x = .int .i64 D ∧ wr.ownsRow w.heap.size 100 3 out (misL ts (nbUpto xs i j)).length (bdCells (misL ts (nbUpto xs i j))) ∧ Below w.heap.size w wr)
      case atStart => exact ⟨0, 1, by omega, by omega, rfl, by (rw [nbUpto_zero]; exact hrow), hbw⟩
      case round =>
        obtain ⟨j, D, hj, hD, rfl, hrow2, hbw2⟩ := hrel
        clear hrow
        by_cases hj2 : j < 2
        · obtain ⟨d, hd⟩ : ∃ d, d = dirOf j := ⟨_, rfl⟩
          have hd4 : d < 4 := by rw [hd]; unfold dirOf; split <;> omega
          obtain rfl : D = (d : Int) := by rw [hD, hd]; unfold dirOf; split <;> omega
          have hD2 : (d : Int) - 1 = 1 - ((j + 1 : Nat) : Int) := by omega
          have hD2H := Lib.hid hD2
          have hnbs := nbUpto_succ xs i j hj2
          rw [← hd] at hnbs
          have hnbsH := Lib.hid hnbs
          have hnbl := Lib.hid (nbUpto_len xs i j)
          have hbl := Lib.hid (misL_len ts (nbUpto xs i j))
          clear hD hD2 hnbs hd
          have hd0 : (0 : Int) ≤ (d : Int) := by omega
          obtain ⟨plt2, A2, n2, c2, g1b, g2b⟩ := ha.below hbw2
          obtain rfl : n2 = n' := by rw [← g2b.len]; exact hl
          rcases placeI_cases xs (stepX e.x d) (stepY e.y d) with hp | ⟨k, hp, hkx⟩
          · have hnn := Lib.hid (nb_none heH.out hp)
            have hpH := Lib.hid hp
            clear hp
            go_wp2_with fail
            refine (l06Neighbor_at (ha.below hbw2) hV heH.out hd4 hpH.out).mono ?_
            rintro _ w1 ⟨rfl, hb1⟩
            go_wp2
            refine wp_region_ord [(0, .q), (1, .q), (2, .q), (3, .q), (4, .q), (5, .q), (6, .q), (7, .q), (8, .q), (9, .q), (10, .q), (11, .q), (12, .q), (13, .q), (14, .q), (15, .q), (16, .q), (17, .q), (18, .q), (19, .q), (20, .q), (21, .g), (22, .q)] (by kernel_rfl) (by kernel_rfl) ?_
            simp only [pick, List.filterMap_cons, List.filterMap_nil, List.getElem?_toArray, List.getElem?_cons_zero, List.getElem?_cons_succ, Option.map_some]
            repeat (first
              | ((with_reducible refine wpD_p (fun K hK => ?_)); go_simp; refine hK _ ?_; clear hK K)
              | ((with_reducible refine wpD_q (fun K hK => ?_)); go_simp; (first | refine hK _ ?_ | (go_bits; refine hK _ ?_) | (go_bits; go_simp; refine hK _ ?_)); clear hK K)
              | ((with_reducible refine wpD_g (fun K hK => ?_)); go_simp; refine hK _ _ ?_; clear hK K)
              | ((with_reducible refine wpD_g (fun K hK => ?_)); go_simp; refine ⟨Grew.of_alloc _, hK _ _ ?_⟩; clear hK K))
            with_reducible refine wpD_nil ?_
            go_wp2
            go_roundg (2 - (j + 1))
            case measure => omega
            case rel => exact ⟨j + 1, _, by omega, hD2H.out, rfl, by (rw [hnbsH.out, hnn.out, List.append_nil]; exact (ownsRow_below hrow2 hb1.drew)), hbw2.trans (Below.mono (show Below wr.heap.size wr w1.drew from hb1.drew) hbw2.size)⟩
          · have hnn := Lib.hid (nb_some heH.out hd4 hp hkx)
            have hpH := Lib.hid hp
            clear hp
            obtain ⟨b, o, rfl, hb, hc⟩ := g2b.ptr (by omega)
            obtain ⟨e2, he2⟩ := g2b.get (k := k) (by omega)
            obtain ⟨x0, x1, x2⟩ := hc i e heH.out
            obtain ⟨y0, y1, y2⟩ := hc k e2 he2
            obtain ⟨t1, ht1, ht1l⟩ := hV.ti i e heH.out
            obtain ⟨t2, ht2, ht2l⟩ := hV.ti k e2 he2
            rw [ht1] at x2
            rw [ht2] at y2
            have hs' : misT ts (xs := xs) ⟨(i, k, d), lt_of_get heH.out, hkx, hd4⟩ = decide (sideI ts t1 d ≠ sideI ts t2 (oppN d)) := by
              unfold misT tileN
              simp only [heH.out, he2, ht1, ht2, Int.toNat_natCast]
            obtain ⟨r, hr⟩ : ∃ r, decide (sideI ts t1 d ≠ sideI ts t2 (oppN d)) = r := ⟨_, rfl⟩
            rw [hr] at hs'
            have hsH := Lib.hid hs'
            have hrH := Lib.hid hr
            have hkn : k < n2 := by omega
            have hk0 : (0 : Int) ≤ (k : Int) := by omega
            clear hs' hr he2 ht1 ht2 hc g2b
            cases r
            rotate_left
            · go_wp2_with fail
              refine (l06Neighbor_at (ha.below hbw2) hV heH.out hd4 hpH.out).mono ?_
              rintro _ w1 ⟨rfl, hb1⟩
              obtain ⟨chb1, fhb1, shb1, thb1⟩ := bcell hb1
              have sb1 := shb1 b hb
              have sp1 := shb1 pa plt2
              go_wp2
              refine wp_region_ord [(0, .q), (1, .q), (2, .q), (3, .q), (4, .q), (5, .q), (6, .q), (7, .q), (8, .q), (9, .q), (10, .q), (11, .q), (12, .q), (13, .q), (14, .q), (15, .q), (16, .q), (17, .q), (18, .q), (19, .q), (20, .q), (21, .g), (22, .q)] (by kernel_rfl) (by kernel_rfl) ?_
              simp only [pick, List.filterMap_cons, List.filterMap_nil, List.getElem?_toArray, List.getElem?_cons_zero, List.getElem?_cons_succ, Option.map_some]
              repeat (first
                | ((with_reducible refine wpD_p (fun K hK => ?_)); go_simp; refine hK _ ?_; clear hK K)
                | ((with_reducible refine wpD_q (fun K hK => ?_)); go_simp; (first | refine hK _ ?_ | (go_bits; refine hK _ ?_) | (go_bits; go_simp; refine hK _ ?_)); clear hK K)
                | ((with_reducible refine wpD_g (fun K hK => ?_)); go_simp; refine hK _ _ ?_; clear hK K)
                | ((with_reducible refine wpD_g (fun K hK => ?_)); go_simp; refine ⟨Grew.of_alloc _, hK _ _ ?_⟩; clear hK K)
                | ((with_reducible refine wpD_g (fun K hK => ?_)); go_simp; go_at_call 44; refine (l06Misfit_at t1 t2 rfl rfl (hs.below (hbw2.trans (Below.mono (by exact bel_) hbw2.size))) hV ht1l ht2l hd4 hrH.out).mono ?_; rintro e w2 ⟨rfl, hb2⟩; refine ⟨_, rfl, hb2, hK _ _ ?_⟩; clear hK K; obtain ⟨chb2, fhb2, shb2, thb2⟩ := bcell hb2))
              with_reducible refine wpD_nil ?_
              have hbA : Below wr.heap.size wr w2 := by exact bel_
              have hB2 : Below w.heap.size w w2 := hbw2.trans (hbA.mono hbw2.size)
              have hrow' := ownsRow_below hrow2 hbA
              have hbl' := hbl.out
              have hnbl' := hnbl.out
              go_wp2_with (at_builtin; refine wpList_append_own _ rfl _ _ 66 rfl w.heap.size 100 i0 (.agg #[.int .i64 0, .int .i64 0, .int .i64 0]) 3 24 Tryz.underlying66 hi hz0 hz1 hz2 rfl (by decide) _ _ _ rfl (hrow'.alloc _) ⟨w2.heap.size, 0, none⟩ 1 1 [.int .i64 i, .int .i64 k, .int .i64 0] rfl rfl (cell_three_new _ _ _ _ _) (fun x hx => by simp at hx; rcases hx with rfl | rfl | rfl <;> rfl) (by unfold maxLen; omega) (by omega) (by have := hB2.size; simp; omega) ?_; intro v' w3 hown' hgrow _)
              go_roundg (2 - (j + 1))
              case measure => omega
              case rel => exact ⟨j + 1, _, by omega, hD2H.out, rfl, by (rw [hnbsH.out, hnn.out, misL_hit _ hsH.out, List.length_append, bdCells_snoc]; exact hown'), (hB2.alloc hB2.size _).grown hgrow (by have := hB2.size; simp; omega) (fun b' hb' => (hrow'.lt b' hb').1)⟩
            · go_wp2_with fail
              refine (l06Neighbor_at (ha.below hbw2) hV heH.out hd4 hpH.out).mono ?_
              rintro _ w1 ⟨rfl, hb1⟩
              obtain ⟨chb1, fhb1, shb1, thb1⟩ := bcell hb1
              have sb1 := shb1 b hb
              have sp1 := shb1 pa plt2
              go_wp2
              refine wp_region_ord [(0, .q), (1, .q), (2, .q), (3, .q), (4, .q), (5, .q), (6, .q), (7, .q), (8, .q), (9, .q), (10, .q), (11, .q), (12, .q), (13, .q), (14, .q), (15, .q), (16, .q), (17, .q), (18, .q), (19, .q), (20, .q), (21, .g), (22, .q)] (by kernel_rfl) (by kernel_rfl) ?_
              simp only [pick, List.filterMap_cons, List.filterMap_nil, List.getElem?_toArray, List.getElem?_cons_zero, List.getElem?_cons_succ, Option.map_some]
              repeat (first
                | ((with_reducible refine wpD_p (fun K hK => ?_)); go_simp; refine hK _ ?_; clear hK K)
                | ((with_reducible refine wpD_q (fun K hK => ?_)); go_simp; (first | refine hK _ ?_ | (go_bits; refine hK _ ?_) | (go_bits; go_simp; refine hK _ ?_)); clear hK K)
                | ((with_reducible refine wpD_g (fun K hK => ?_)); go_simp; refine hK _ _ ?_; clear hK K)
                | ((with_reducible refine wpD_g (fun K hK => ?_)); go_simp; refine ⟨Grew.of_alloc _, hK _ _ ?_⟩; clear hK K)
                | ((with_reducible refine wpD_g (fun K hK => ?_)); go_simp; go_at_call 44; refine (l06Misfit_at t1 t2 rfl rfl (hs.below (hbw2.trans (Below.mono (by exact bel_) hbw2.size))) hV ht1l ht2l hd4 hrH.out).mono ?_; rintro e w2 ⟨rfl, hb2⟩; refine ⟨_, rfl, hb2, hK _ _ ?_⟩; clear hK K; obtain ⟨chb2, fhb2, shb2, thb2⟩ := bcell hb2))
              with_reducible refine wpD_nil ?_
              have hbA : Below wr.heap.size wr w2 := by exact bel_
              have hB2 : Below w.heap.size w w2 := hbw2.trans (hbA.mono hbw2.size)
              go_wp2
              go_roundg (2 - (j + 1))
              case measure => omega
              case rel => exact ⟨j + 1, _, by omega, hD2H.out, rfl, by (rw [hnbsH.out, hnn.out, misL_miss _ hsH.out]; exact ownsRow_below hrow2 hbA), hB2⟩
        · obtain rfl : j = 2 := by omega
          obtain rfl : D = -1 := by omega
          go_wp2
          go_roundg (n' - (i + 1))
          case measure => omega
          case rel => exact ⟨i + 1, by omega, by go_num, by (rw [← nbUpto_two]; exact hrow2), hbw2⟩
    · obtain rfl : i = n' := by omega
      clear g2
      go_wp2
      go_ret
      exact ⟨_, rfl, by (rw [hl]; exact hrow), hbw⟩
theorem missR_len (gs : List Gl) (ts : List Ti) (xs : List Pl) : (missR gs ts xs).1.length ≤ 1073741824 := by
  unfold missR
  split
  · rename_i h
    have h1 := misL_len ts (nbAll xs xs.length)
    have h2 := nbAll_len xs xs.length
    have h3 := (valid_of h).len
    show (misL ts (nbAll xs xs.length)).length ≤ _
    omega
  · simp
end Go.Proofs.YtmpmokefgdjnkaaGreat
