/- The program's list of bonds. -/
import Derived.Test.YtmhgjgclclnmaaaGreatW14
import Derived.Maps.AppendAt
import Derived.WalkSmall
namespace Go.Proofs.YtmhgjgclclnmaaaGreat
open Go.RowKit Go.Shelf
set_option linter.unusedSimpArgs false
set_option linter.unusedVariables false
attribute [local go_sem] BelowBy.cell BelowBy.cell_drew stillUpon givesUpon Oper.semAt_some

theorem cell_three_new (w : World) (a b c : Value) (t : TypeId) : ∀ j u, [a, b, c][j]? = some u → (w.alloc (.cells #[a, b, c] t)).cell? ((⟨w.heap.size, 0, none⟩ : Addr).add j) = some u := by
  intro j u hj
  match j, hj with
  | 0, hj => simp at hj; subst hj; simp [Addr.add]
  | 1, hj => simp at hj; subst hj; simp [Addr.add]
  | 2, hj => simp at hj; subst hj; simp [Addr.add]
  | j + 3, hj => simp at hj
structure Bd where
  a : Nat
  b : Nat
  s : Int
def tileN (xs : List Pl) (i : Nat) : Nat := match xs[i]? with
  | none => 0
  | some e => e.t.toNat
def bdS (gs : List Gl) (ts : List Ti) {xs : List Pl} (x : NbT xs) : Int := bondI gs ts (tileN xs x.1.1) x.1.2.2 (tileN xs x.1.2.1)
def bdL (gs : List Gl) (ts : List Ti) {xs : List Pl} (l : List (NbT xs)) : List Bd := l.filterMap fun x => if 0 < bdS gs ts x then some ⟨x.1.1, x.1.2.1, bdS gs ts x⟩ else none
theorem bdL_hit {gs : List Gl} {ts : List Ti} {xs : List Pl} (l : List (NbT xs)) {x : NbT xs} (h : 0 < bdS gs ts x) : bdL gs ts (l ++ [x]) = bdL gs ts l ++ [⟨x.1.1, x.1.2.1, bdS gs ts x⟩] := by
  simp [bdL, h]
theorem bdL_miss {gs : List Gl} {ts : List Ti} {xs : List Pl} (l : List (NbT xs)) {x : NbT xs} (h : ¬ 0 < bdS gs ts x) : bdL gs ts (l ++ [x]) = bdL gs ts l := by
  simp [bdL, h]
theorem bdL_len (gs : List Gl) (ts : List Ti) {xs : List Pl} (l : List (NbT xs)) : (bdL gs ts l).length ≤ l.length := List.length_filterMap_le _ _
noncomputable def bondsL (gs : List Gl) (ts : List Ti) (xs : List Pl) : List Bd := bdL gs ts (nbAll xs xs.length)
def bdCells : List Bd → List Value
  | [] => []
  | b :: l => .int .i64 b.a :: .int .i64 b.b :: .int .i64 b.s :: bdCells l
theorem bdCells_snoc (l : List Bd) (b : Bd) : bdCells (l ++ [b]) = bdCells l ++ [.int .i64 b.a, .int .i64 b.b, .int .i64 b.s] := by
  induction l with
  | nil => rfl
  | cons c l ih => simp [bdCells, ih]
theorem heap_own {β : Type} (B : Nat) (cs : Array Value) (t : TypeId) : Own (fun (_ : β) W => W.heap[B]? = some (Obj.cells cs t)) := fun s X Y row h hg hrow => by
  refine (hg.block B (Array.getElem?_eq_some_iff.1 h).1 (fun e => ?_)).trans h
  obtain ⟨o, ho, hc⟩ := hrow B e.symm
  rw [h] at ho
  obtain rfl := Option.some.inj ho
  cases hc
theorem KeepsFrom.of_below {B : Nat} {W W' : World} (h : Below W.heap.size W W') : KeepsFrom B W W' := ⟨h.size, fun k o _ hk _ => (h.block k (Array.getElem?_eq_some_iff.1 hk).1).trans hk⟩
theorem ownsRow_below {w w' : World} {base : Nat} {e : TypeId} {size : Nat} {v : Value} {n : Nat} {xs : List Value} (h : w.ownsRow base e size v n xs) (hb : Below w.heap.size w w') : w'.ownsRow base e size v n xs :=
  h.kept (grown_below hb none) (Classical.em _)
theorem KeepT.appended {W w1 : World} {n₀ B : Nat} {t e : TypeId} {size : Nat} {v v' : Value} {k : Nat} {xs : List Value} {tmp : Obj} (hv : Boxed W B t v) (hrow : W.ownsRow n₀ e size v k xs) (hgrow : (W.alloc tmp).grownBy w1 v.ownBlock) :
    KeepT t e W (w1.setCell ⟨B, 0, none⟩ v') := by
  intro b cs t' hb h1 h2
  have hlt := (Array.getElem?_eq_some_iff.1 hb).1
  have hbB : b ≠ B := by
    intro e'
    subst e'
    rw [show W.heap[b]? = _ from hv] at hb
    simp at hb
    exact h1 hb.2.symm
  have hne : some b ≠ v.ownBlock := by
    rcases hrow.2 with ⟨rfl, _⟩ | ⟨g, cap, cur, rfl, _, hgb, _⟩
    · simp [Value.ownBlock]
    · intro e'
      obtain rfl : b = g := by simpa [Value.ownBlock] using e'
      rw [hgb] at hb
      simp at hb
      exact h2 hb.2.symm
  rw [Below.heap_setCell _ _ _ _ hbB]
  exact (hgrow.block b (by simp; omega) hne).trans ((Below.heap_alloc _ _ _ hlt).trans hb)
theorem bond_at {A B : Option Addr} {n c m dd : Nat} {gs : List Gl} {ts : List Ti} {xs : List Pl} {a d b r : Int} {w : World} (an dn bn : Nat) (ha : a = an) (hd : d = dn) (hb : b = bn) (h2 : RdSl 2 RGl w A n gs) (h4 : RdSl 2 RTi w B m ts) (hV : Valid gs ts xs) (h1 : an < ts.length) (h3 : bn < ts.length) (h5 : dn < 4) (hr : bondI gs ts an dn bn = r) :
    Calls Tryz.prog 93 #[.agg #[.slice A n c, .slice B m dd], .int .i64 a, .int .i64 d, .int .i64 b] w fun e w' => e = .returned (.int .i64 r) ∧ Below w.heap.size w w' := by
  subst ha hd hb hr; exact bond_any _ _ _ _ _ _ gs ts xs _ _ _ _ h2 h4 hV h1 h3 h5
theorem infoBond : (Tryz.prog.info? 49).map (fun i => (i.zero, i.size, i.bytes)) = some (some (.agg #[.int .i64 0, .int .i64 0, .int .i64 0]), 3, 24) := by kernel_rfl
set_option maxRecDepth 100000 in
set_option maxHeartbeats 400000 in
theorem bonds_in (n : Nat) (G T A : Option Addr) (ng cg m ct q ca : Nat) (gs : List Gl) (ts : List Ti) (xs : List Pl) (w : World) (hG : RdSl 2 RGl w G ng gs) (hT : RdSl 2 RTi w T m ts) (hA : RdSl 3 RPl w A q xs) (hV : Valid gs ts xs) (hn : 3 ≤ n) :
    CallsIn Fence.wide n Tryz.prog 45 #[.agg #[.slice G ng cg, .slice T m ct], .agg #[.slice A q ca]] w fun e W' => ∃ v, e = .returned v ∧ W'.ownsRow w.heap.size 49 3 v (bondsL gs ts xs).length (bdCells (bondsL gs ts xs)) ∧ Below w.heap.size w W' := by
  have h1 : 1 ≤ n := by omega
  obtain ⟨i0, hi, hz0, hz1, hz2⟩ := info_parts infoBond
  refine callsIn_of_wp_marks Tryz.func45 rfl trivial ?_ rfl
  simp only [Tryz.ntmps45, List.size_toArray, List.length_cons, List.length_nil, Nat.reduceAdd, Nat.reduceSub, Array.replicate_succ, Array.replicate_zero, List.push_toArray, List.append_toArray, List.nil_append, List.cons_append]
  gi_wp2_with (refine ⟨trivial, ?_⟩; gi_at_call 92; refine (callsIn_wide.2 (neighbors_any _ _ _ _)).mono ?_; rintro e w' ⟨rfl, rfl⟩)
  have bO : (((w.alloc (Obj.cells #[Value.slice G ng cg, Value.slice T m ct] 27)).alloc (Obj.cells #[Value.slice A q ca] 30)).alloc (Obj.cells #[Value.slice none 0 0] 44)).heap[w.heap.size + 2]? = some (Obj.cells #[Value.slice none 0 0] 44) := by
    have := World.alloc_heap_new ((w.alloc (Obj.cells #[Value.slice G ng cg, Value.slice T m ct] 27)).alloc (Obj.cells #[Value.slice A q ca] 30)) (Obj.cells #[Value.slice none 0 0] 44)
    simpa only [World.size_alloc] using this
  obtain ⟨W0, hW0⟩ : ∃ W0, W0 = (((w.alloc (Obj.cells #[Value.slice G ng cg, Value.slice T m ct] 27)).alloc (Obj.cells #[Value.slice A q ca] 30)).alloc (Obj.cells #[Value.slice none 0 0] 44)).alloc (Obj.cells #[Value.slice A q ca] 30) := ⟨_, rfl⟩
  have hsz : W0.heap.size = w.heap.size + 4 := by rw [hW0]; simp
  have hB0 : Below w.heap.size w W0 := by rw [hW0]; exact bel_
  have bS : W0.heap[w.heap.size]? = some (Obj.cells #[Value.slice G ng cg, Value.slice T m ct] 27) := by
    rw [hW0]
    refine (Below.heap_alloc _ _ _ (by simp <;> omega)).trans ((Below.heap_alloc _ _ _ (by simp <;> omega)).trans ((Below.heap_alloc _ _ _ (by simp)).trans (World.alloc_heap_new _ _)))
  have bA : W0.heap[w.heap.size + 1]? = some (Obj.cells #[Value.slice A q ca] 30) := by
    rw [hW0]
    refine (Below.heap_alloc _ _ _ (by simp <;> omega)).trans ((Below.heap_alloc _ _ _ (by simp)).trans ?_)
    have := World.alloc_heap_new (w.alloc (Obj.cells #[Value.slice G ng cg, Value.slice T m ct] 27)) (Obj.cells #[Value.slice A q ca] 30)
    simpa only [World.size_alloc] using this
  have bO' : Boxed W0 (w.heap.size + 2) 44 (.slice none 0 0) := by
    rw [hW0]
    exact (Below.heap_alloc _ _ _ (by simp)).trans bO
  have bN : W0.heap[w.heap.size + 3]? = some (Obj.cells #[Value.slice A q ca] 30) := by
    rw [hW0]
    have := World.alloc_heap_new (((w.alloc (Obj.cells #[Value.slice G ng cg, Value.slice T m ct] 27)).alloc (Obj.cells #[Value.slice A q ca] 30)).alloc (Obj.cells #[Value.slice none 0 0] 44)) (Obj.cells #[Value.slice A q ca] 30)
    simpa only [World.size_alloc] using this
  rw [← hW0]
  clear bO hW0
  refine wpIn_rangeFunc_ownH rfl h1 (gf := 139) (lb := #[.pointer (some ⟨w.heap.size + 3, 0, none⟩)]) rfl trivial (enters_of Tryz.func139 (by kernel_rfl) rfl)
    (neighbors_stops (n - 1) (w.heap.size + 3) w.heap.size A q ca gs ts xs hV W0 (by omega) bN (hA.below RPl.stable hB0) (fun hq b o hA' => by
      obtain ⟨b', o', e', hb', _⟩ := hA.cells hq
      rw [hA'] at e'
      obtain rfl : b = b' := by simpa using (congrArg (fun x => x.map Addr.block) e')
      exact hb')) (fun h k => KpN.t h k) (KpN.b (by omega)) (Below.refl _ _) (fun _ => rfl)
    (fun pre W => ((∃ v, Boxed W (w.heap.size + 2) 44 v ∧ W.ownsRow w.heap.size 49 3 v (bdL gs ts pre).length (bdCells (bdL gs ts pre)) ∧ True) ∧ (W.heap[w.heap.size]? = some (Obj.cells #[Value.slice G ng cg, Value.slice T m ct] 27) ∧ W.heap[w.heap.size + 1]? = some (Obj.cells #[Value.slice A q ca] 30))) ∧ Below w.heap.size w W)
    (fun _ _ _ => False)
    (OwnFrom.and (OwnFrom.and (Own.from (holdsRow_own w.heap.size (w.heap.size + 2) 44 49 3 (fun pre => (bdL gs ts pre).length) (fun pre => bdCells (bdL gs ts pre)) (fun _ _ => True)) _) (OwnFrom.and (Own.from (heap_own _ _ _) _) (Own.from (heap_own _ _ _) _))) (ownFrom_below (Nat.le_refl _) (by omega)))
    (fun _ _ _ _ _ hs _ _ => hs)
    ⟨⟨⟨_, bO', World.ownsRow_nil _ _ _ _, trivial⟩, bS, bA⟩, hB0⟩
    (fun x a' W => ∃ Bx, True ∧ W.heap[Bx]? = some (Obj.cells #[.int .i64 (x.1.1 : Int), .int .i64 (x.1.2.1 : Int)] 160) ∧ a' = { tmps := #[.agg #[.slice G ng cg, .slice T m ct], .agg #[.slice A q ca], .pointer (some ⟨w.heap.size, 0, none⟩), .pointer (some ⟨w.heap.size + 1, 0, none⟩), .slice none 0 0, .pointer (some ⟨w.heap.size + 2, 0, none⟩), .pointer (some ⟨Bx, 0, none⟩), .int .i64 (x.1.2.2 : Int), undef, .agg #[.slice A q ca], .func (.func 139) #[] #[.pointer (some ⟨w.heap.size + 3, 0, none⟩)], .agg #[.int .i64 (x.1.1 : Int), .int .i64 (x.1.2.1 : Int)], .int .i64 (x.1.2.2 : Int), undef, undef, undef, undef, undef, undef, undef, undef, undef, undef, undef, undef, undef, undef, undef, undef, undef, undef, undef, undef, undef, undef, undef, undef, undef, undef, undef, undef, undef], defers := [] })
    (fun x a' _ X Y row hs hg hr => by obtain ⟨Bx, h1, h2, h3⟩ := hs; exact ⟨Bx, h1, heap_own Bx _ _ () X Y row h2 hg (fun r e => (hr r e).2), h3⟩)
    ?assign ?body ?done ?stop
  case assign =>
    rintro l pre x W K ⟨⟨⟨v, bv, hrow, -⟩, bs, ba⟩, hB⟩ hK
    have hlt2 := bv.lt
    simp only [encN]
    gi_wp2
    refine hK _ _ (KeepsFrom.of_below (by exact bel_)) ⟨Below.mono (by exact bel_) hB.size, KeepT.of_below (by exact bel_)⟩ ⟨⟨⟨v, bv.alloc _, hrow.alloc _, trivial⟩, ?_, ?_⟩, by exact bel_⟩ ⟨W.heap.size, trivial, World.alloc_heap_new _ _, rfl⟩
    · exact (Below.heap_alloc _ _ _ (by omega)).trans bs
    · exact (Below.heap_alloc _ _ _ (by omega)).trans ba
  case body =>
    rintro l pre x a' W hl - ⟨⟨⟨v, bv, hrow, -⟩, bs, ba⟩, hB⟩ ⟨Bx, hBx, bX, rfl⟩ hlt
    have hlt2 := bv.lt
    have cO := bv.cell
    have fO := bv.frozen
    have cs0 : W.cell? ⟨w.heap.size, 0, none⟩ = some (.slice G ng cg) := by simp [World.cell?, bs]
    have cs1 : W.cell? ⟨w.heap.size, 1, none⟩ = some (.slice T m ct) := by simp [World.cell?, bs]
    have ca0 : W.cell? ⟨w.heap.size + 1, 0, none⟩ = some (.slice A q ca) := by simp [World.cell?, ba]
    have cx0 : W.cell? ⟨Bx, 0, none⟩ = some (.int .i64 (x.1.1 : Int)) := by simp [World.cell?, bX]
    have cx1 : W.cell? ⟨Bx, 1, none⟩ = some (.int .i64 (x.1.2.1 : Int)) := by simp [World.cell?, bX]
    have l0 : w.heap.size < W.heap.size := by omega
    have l1 : w.heap.size + 1 < W.heap.size := by omega
    have hBxl : Bx < W.heap.size := (Array.getElem?_eq_some_iff.1 bX).1
    obtain ⟨⟨i, k, d⟩, hi', hk', hd'⟩ := x
    dsimp only at cx0 cx1 hi' hk' hd' ⊢
    have hlA := hA.len
    have hAW := hA.below RPl.stable hB
    obtain ⟨b, o, rfl, hb, hc⟩ := hAW.ptr (by omega)
    obtain ⟨e1, he1⟩ := hAW.get (k := i) (by omega)
    obtain ⟨e2, he2⟩ := hAW.get (k := k) (by omega)
    obtain ⟨x0, x1, x2⟩ := hc i e1 he1
    obtain ⟨y0, y1, y2⟩ := hc k e2 he2
    obtain ⟨t1, ht1, ht1l⟩ := hV.ti i e1 he1
    obtain ⟨t2, ht2, ht2l⟩ := hV.ti k e2 he2
    rw [ht1] at x2
    rw [ht2] at y2
    have hs : bdS gs ts (xs := xs) ⟨(i, k, d), hi', hk', hd'⟩ = bondI gs ts t1 d t2 := by
      unfold bdS tileN
      simp only [he1, he2, ht1, ht2, Int.toNat_natCast]
    obtain ⟨r, hr⟩ : ∃ r, bondI gs ts t1 d t2 = r := ⟨_, rfl⟩
    rw [hr] at hs
    have hs := Lib.hid hs
    have hr := Lib.hid hr
    rename_i hs0 hr0
    have hGw := Lib.hid (hG.below RGl.stable hB)
    have hTw := Lib.hid (hT.below RTi.stable hB)
    clear hs0 hr0 he1 he2 ht1 ht2 hc hAW
    have hiq : i < q := by omega
    have hkq : k < q := by omega
    have hll := bdL_len gs ts pre
    by_cases hpos : 0 < r
    · gi_wp2
      refine wpIn_region_ordR [(0, .q), (1, .q), (2, .q), (3, .q), (4, .q), (5, .q), (6, .q), (7, .q), (8, .q), (9, .q), (10, .q), (11, .q), (12, .q), (13, .q), (14, .q), (15, .q), (16, .g), (17, .q)] (by kernel_rfl) (by kernel_rfl) (by kernel_rfl) ?_
      simp only [pick, List.filterMap_cons, List.filterMap_nil, List.getElem?_toArray, List.getElem?_cons_zero, List.getElem?_cons_succ, Option.map_some]
      repeat (first
        | ((with_reducible refine wpD_p (fun K hK => ?_)); go_simp; refine hK _ ?_; clear hK K)
        | ((with_reducible refine wpD_q (fun K hK => ?_)); go_simp; (first | refine hK _ ?_ | (go_bits; refine hK _ ?_) | (go_bits; go_simp; refine hK _ ?_)); clear hK K)
        | ((with_reducible refine wpD_g (fun K hK => ?_)); go_simp; refine hK _ _ ?_; clear hK K)
        | ((with_reducible refine wpD_g (fun K hK => ?_)); go_simp; refine ⟨Grew.of_alloc _, hK _ _ ?_⟩; clear hK K)
        | ((with_reducible refine wpD_g (fun K hK => ?_)); go_simp; go_at_call 93; refine (bond_at t1 d t2 rfl rfl rfl (hGw.out.below RGl.stable (by exact bel_)) (hTw.out.below RTi.stable (by exact bel_)) hV ht1l ht2l hd' hr.out).mono ?_; rintro e w1 ⟨rfl, hb1⟩; refine ⟨_, rfl, hb1, hK _ _ ?_⟩; clear hK K; obtain ⟨chb1, fhb1, shb1, thb1⟩ := bcell hb1))
      with_reducible refine wpD_nil ?_
      have hbA : Below W.heap.size W w1 := by exact bel_
      have hB1 : Below w.heap.size w w1 := hB.trans (hbA.mono hB.size)
      have bv' : Boxed w1 (w.heap.size + 2) 44 v := (hbA.block _ bv.lt).trans bv
      have hrow' := ownsRow_below hrow hbA
      have cO' := bv'.cell
      have fO' := bv'.frozen
      have cx0' : w1.cell? ⟨Bx, 0, none⟩ = some (.int .i64 (i : Int)) := (hbA.cell (p := ⟨Bx, 0, none⟩) hBxl).trans cx0
      have cx1' : w1.cell? ⟨Bx, 1, none⟩ = some (.int .i64 (k : Int)) := (hbA.cell (p := ⟨Bx, 1, none⟩) hBxl).trans cx1
      have hBx1 : Bx < w1.heap.size := Nat.lt_of_lt_of_le hBxl hbA.size
      have bs' := (KeepT.of_below (t1 := 44) (t2 := 49) hbA) _ _ _ bs (by decide) (by decide)
      have ba' := (KeepT.of_below (t1 := 44) (t2 := 49) hbA) _ _ _ ba (by decide) (by decide)
      gi_wp2_with (gi_at_builtin; refine wpListIn_append_own _ rfl _ _ 44 rfl w.heap.size 49 i0 (.agg #[.int .i64 0, .int .i64 0, .int .i64 0]) 3 24 Tryz.underlying44 hi hz0 hz1 hz2 rfl (by decide) _ _ _ rfl (hrow'.alloc _) ⟨w1.heap.size, 0, none⟩ 1 1 [.int .i64 i, .int .i64 k, .int .i64 r] rfl rfl (cell_three_new _ _ _ _ _) (fun x hx => by simp at hx; rcases hx with rfl | rfl | rfl <;> rfl) (by unfold maxLen; omega) (by omega) (by have := hB1.size; simp; omega) ?_; intro v' w2 hown' hgrow _; obtain ⟨g', cap', rfl⟩ := ownsRow_succ hown'; obtain ⟨hv1, hv2, hr2, hk2, hb2⟩ := bv'.appended (by decide) hrow' hB1.size (by omega) hown' hgrow; have hc1 := hv1.cell; have hf1 := hv1.frozen)
      have hKT := KeepT.appended (v' := .slice (some ⟨g', 0, none⟩) ((bdL gs ts pre).length + 1) cap') bv' hrow' hgrow
      refine ⟨(KeepsFrom.of_below hbA).trans (hk2.from _), ⟨(hbA.mono hB.size).trans hb2, (KeepT.of_below hbA).trans hKT⟩, ⟨⟨_, hv2, ?_, trivial⟩, hKT _ _ _ bs' (by decide) (by decide), hKT _ _ _ ba' (by decide) (by decide)⟩, hB1.trans hb2⟩
      rw [bdL_hit pre (by rw [hs.out]; exact hpos), List.length_append, bdCells_snoc]
      simp only [hs.out]
      exact hr2
    · have hp2 : decide (0 < r) = false := decide_eq_false hpos
      gi_wp2
      refine wpIn_region_ordR [(0, .q), (1, .q), (2, .q), (3, .q), (4, .q), (5, .q), (6, .q), (7, .q), (8, .q), (9, .q), (10, .q), (11, .q), (12, .q), (13, .q), (14, .q), (15, .q), (16, .g), (17, .q)] (by kernel_rfl) (by kernel_rfl) (by kernel_rfl) ?_
      simp only [pick, List.filterMap_cons, List.filterMap_nil, List.getElem?_toArray, List.getElem?_cons_zero, List.getElem?_cons_succ, Option.map_some]
      repeat (first
        | ((with_reducible refine wpD_p (fun K hK => ?_)); go_simp; refine hK _ ?_; clear hK K)
        | ((with_reducible refine wpD_q (fun K hK => ?_)); go_simp; (first | refine hK _ ?_ | (go_bits; refine hK _ ?_) | (go_bits; go_simp; refine hK _ ?_)); clear hK K)
        | ((with_reducible refine wpD_g (fun K hK => ?_)); go_simp; refine hK _ _ ?_; clear hK K)
        | ((with_reducible refine wpD_g (fun K hK => ?_)); go_simp; refine ⟨Grew.of_alloc _, hK _ _ ?_⟩; clear hK K)
        | ((with_reducible refine wpD_g (fun K hK => ?_)); go_simp; go_at_call 93; refine (bond_at t1 d t2 rfl rfl rfl (hGw.out.below RGl.stable (by exact bel_)) (hTw.out.below RTi.stable (by exact bel_)) hV ht1l ht2l hd' hr.out).mono ?_; rintro e w1 ⟨rfl, hb1⟩; refine ⟨_, rfl, hb1, hK _ _ ?_⟩; clear hK K; obtain ⟨chb1, fhb1, shb1, thb1⟩ := bcell hb1))
      with_reducible refine wpD_nil ?_
      have hbA : Below W.heap.size W w1 := by exact bel_
      have hB1 : Below w.heap.size w w1 := hB.trans (hbA.mono hB.size)
      gi_wp2
      refine ⟨KeepsFrom.of_below hbA, ⟨hbA.mono hB.size, KeepT.of_below hbA⟩, ⟨⟨v, (hbA.block _ bv.lt).trans bv, ?_, trivial⟩, (hbA.block _ l0).trans bs, (hbA.block _ l1).trans ba⟩, hB1⟩
      rw [bdL_miss pre (by rw [hs.out]; omega)]
      exact ownsRow_below hrow hbA
  case done =>
    rintro D ys W hD rfl ⟨⟨⟨v, bv, hrow, -⟩, bs, ba⟩, hB⟩ hK
    have hc := bv.cell
    gi_wp2
    refine ⟨by simp, .inl ⟨_, _, rfl, run_takeDeferred hK, ?_⟩⟩
    exact ⟨_, results_tmp rfl _ _ _, v, rfl, ownsRow_putObj hrow _ hK rfl, hB.trans (belowK_b (w := w) (Nat.le_refl _) W D _ _ (by omega) hK rfl rfl)⟩
  case stop =>
    rintro D c pre W _ _ h _
    exact h.elim
theorem bonds_any (G T A : Option Addr) (ng cg m ct q ca : Nat) (gs : List Gl) (ts : List Ti) (xs : List Pl) (w : World) (hG : RdSl 2 RGl w G ng gs) (hT : RdSl 2 RTi w T m ts) (hA : RdSl 3 RPl w A q xs) (hV : Valid gs ts xs) :
    Calls Tryz.prog 45 #[.agg #[.slice G ng cg, .slice T m ct], .agg #[.slice A q ca]] w fun e W' => ∃ v, e = .returned v ∧ W'.ownsRow w.heap.size 49 3 v (bondsL gs ts xs).length (bdCells (bondsL gs ts xs)) ∧ Below w.heap.size w W' :=
  callsIn_wide.1 (bonds_in 3 G T A ng cg m ct q ca gs ts xs w hG hT hA hV (Nat.le_refl _))
end Go.Proofs.YtmhgjgclclnmaaaGreat
