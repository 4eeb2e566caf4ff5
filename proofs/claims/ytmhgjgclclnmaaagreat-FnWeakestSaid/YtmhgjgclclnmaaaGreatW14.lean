/- The iterator over the neighbors. -/
import Derived.Test.YtmhgjgclclnmaaaGreatW13
import Derived.RangeFuncNested
import Derived.RangeFuncBound
import Derived.RangeFuncCalls
import Derived.RangeFuncLeaves
import Derived.RangeFuncBox
import Derived.Shelf.Abstract
import Derived.Shelf.RegionOpen
import Derived.OwnWalkIn
import Derived.TacticsInMore
import Derived.LoopNIn
import Derived.LoopIn
namespace Go.Proofs.YtmhgjgclclnmaaaGreat
open Go.RowKit Go.Shelf
set_option linter.unusedSimpArgs false
set_option linter.unusedVariables false
attribute [local go_sem] BelowBy.cell BelowBy.cell_drew stillUpon givesUpon Oper.semAt_some

/-- Blocks of cells of other types lie as they lay. -/
def KeepT (t1 t2 : TypeId) (W W' : World) : Prop := ∀ (b : Nat) (cs : Array Value) (t : TypeId), W.heap[b]? = some (Obj.cells cs t) → t ≠ t1 → t ≠ t2 → W'.heap[b]? = some (Obj.cells cs t)
theorem KeepT.refl (t1 t2 : TypeId) (W : World) : KeepT t1 t2 W W := fun _ _ _ h _ _ => h
theorem KeepT.trans {t1 t2 : TypeId} {A B C : World} (h : KeepT t1 t2 A B) (k : KeepT t1 t2 B C) : KeepT t1 t2 A C := fun b cs t hb h1 h2 => k b cs t (h b cs t hb h1 h2) h1 h2
theorem KeepT.of_below {t1 t2 : TypeId} {W W' : World} (h : Below W.heap.size W W') : KeepT t1 t2 W W' := fun b cs t hb _ _ => (h.block b (Array.getElem?_eq_some_iff.1 hb).1).trans hb
theorem grown_below {w w' : World} (h : Below w.heap.size w w') (row : Option Nat) : w.grownBy w' row := ⟨h.os, h.tape, h.output, h.size, fun k hk _ => h.block k hk⟩
def KpN (n₀ : Nat) (W W' : World) : Prop := Below n₀ W W' ∧ KeepT 44 49 W W'
theorem KpN.t {n₀ : Nat} {A B C : World} (h : KpN n₀ A B) (k : KpN n₀ B C) : KpN n₀ A C := ⟨h.1.trans k.1, h.2.trans k.2⟩
theorem KpN.b {n₀ : Nat} {w : World} (hn : n₀ ≤ w.heap.size) (W : World) (l : Nat) (o o' : Obj) (hl : w.heap.size ≤ l) (h : W.heap[l]? = some o) (hc : o.isCells = false) (hw : o.isWalk = false) : KpN n₀ W (W.putObj l o') :=
  ⟨belowK_b hn W l o o' hl h hc hw, fun b cs t hb _ _ => (World.putObj_heap_other (fun e => by
    subst e
    rw [h] at hb
    obtain rfl := Option.some.inj hb
    cases hc)).trans hb⟩
/-- one neighbor: the place, its neighbor's place, the direction -/
abbrev NbT (xs : List Pl) : Type := { x : Nat × Nat × Nat // x.1 < xs.length ∧ x.2.1 < xs.length ∧ x.2.2 < 4 }
open Classical in
noncomputable def nb (xs : List Pl) (i d : Nat) : List (NbT xs) := match xs[i]? with
  | none => []
  | some e => if h : 0 ≤ placeI xs (stepX e.x d) (stepY e.y d) ∧ (i < xs.length ∧ (placeI xs (stepX e.x d) (stepY e.y d)).toNat < xs.length ∧ d < 4) then [⟨(i, (placeI xs (stepX e.x d) (stepY e.y d)).toNat, d), h.2⟩] else []
noncomputable def nbAll (xs : List Pl) : Nat → List (NbT xs)
  | 0 => []
  | i + 1 => nbAll xs i ++ (nb xs i 1 ++ nb xs i 0)
theorem placeI_is (xs : List Pl) (x y : Int) : IsPlace xs x y (placeI xs x y) := by
  apply Classical.epsilon_spec (p := IsPlace xs x y)
  by_cases h : ∃ (k : Nat) (e : Pl), xs[k]? = some e ∧ e.x = x ∧ e.y = y
  · obtain ⟨k, e, he, hx, hy⟩ := h
    exact ⟨k, Or.inr ⟨k, e, rfl, he, hx, hy⟩⟩
  · exact ⟨-1, Or.inl ⟨rfl, fun k e he hxy => h ⟨k, e, he, hxy.1, hxy.2⟩⟩⟩
theorem placeI_cases (xs : List Pl) (x y : Int) : placeI xs x y = -1 ∨ ∃ k : Nat, placeI xs x y = k ∧ k < xs.length := by
  rcases placeI_is xs x y with ⟨h, _⟩ | ⟨k, e, h, he, _⟩
  · exact Or.inl h
  · exact Or.inr ⟨k, h, lt_of_get he⟩
theorem nb_none {xs : List Pl} {i d : Nat} {e : Pl} (he : xs[i]? = some e) (h : placeI xs (stepX e.x d) (stepY e.y d) = -1) : nb xs i d = [] := by
  unfold nb; simp only [he]
  rw [dif_neg]
  rw [h]; rintro ⟨h, _⟩; omega
theorem nb_some {xs : List Pl} {i d k : Nat} {e : Pl} (he : xs[i]? = some e) (hd : d < 4) (h : placeI xs (stepX e.x d) (stepY e.y d) = k) (hk : k < xs.length) : nb xs i d = [⟨(i, k, d), lt_of_get he, hk, hd⟩] := by
  unfold nb; simp only [he]
  have : (placeI xs (stepX e.x d) (stepY e.y d)).toNat = k := by omega
  rw [dif_pos ⟨by omega, lt_of_get he, by omega, hd⟩]
  congr 1
  apply Subtype.ext
  simp only [this]
theorem nb_len (xs : List Pl) (i d : Nat) : (nb xs i d).length ≤ 1 := by
  unfold nb
  split
  · simp
  · split <;> simp
theorem nbAll_len (xs : List Pl) (i : Nat) : (nbAll xs i).length ≤ 2 * i := by
  induction i with
  | zero => simp [nbAll]
  | succ i ih =>
    have h1 := nb_len xs i 1
    have h0 := nb_len xs i 0
    simp only [nbAll, List.length_append]; omega
def dirOf (j : Nat) : Nat := if j = 0 then 1 else 0
/-- what has come when j directions of place i are over -/
noncomputable def nbUpto (xs : List Pl) (i j : Nat) : List (NbT xs) := nbAll xs i ++ ((if 1 ≤ j then nb xs i 1 else []) ++ (if 2 ≤ j then nb xs i 0 else []))
theorem nbUpto_zero (xs : List Pl) (i : Nat) : nbUpto xs i 0 = nbAll xs i := by simp [nbUpto]
theorem nbUpto_two (xs : List Pl) (i : Nat) : nbUpto xs i 2 = nbAll xs (i + 1) := by simp [nbUpto, nbAll]
theorem nbUpto_succ (xs : List Pl) (i j : Nat) (hj : j < 2) : nbUpto xs i (j + 1) = nbUpto xs i j ++ nb xs i (dirOf j) := by
  have : j = 0 ∨ j = 1 := by omega
  rcases this with rfl | rfl <;> simp [nbUpto, dirOf]
theorem nbUpto_len (xs : List Pl) (i j : Nat) : (nbUpto xs i j).length ≤ 2 * i + 2 := by
  have h := nbAll_len xs i
  have h1 := nb_len xs i 1
  have h0 := nb_len xs i 0
  unfold nbUpto
  simp only [List.length_append]
  split <;> split <;> simp <;> omega
def encN {xs : List Pl} (x : NbT xs) : Array Value := #[.agg #[.int .i64 (x.1.1 : Int), .int .i64 (x.1.2.1 : Int)], .int .i64 (x.1.2.2 : Int)]
theorem neighbors_any (A : Option Addr) (n c : Nat) (w : World) :
    Calls Tryz.prog 92 #[.agg #[.slice A n c]] w fun e w' => e = .returned (.func (.func 139) #[] #[.pointer (some ⟨w.heap.size, 0, none⟩)]) ∧ w' = w.alloc (.cells #[.slice A n c] 30) := by
  go_enter Tryz.func92, Tryz.ntmps92
  go_wp2
  go_ret
  exact ⟨rfl, rfl⟩
theorem step_at {x y d x' y' : Int} {w : World} (k : Nat) (hd : d = k) (h4 : k < 4) (hx : -1000 ≤ x ∧ x ≤ 1000) (hy : -1000 ≤ y ∧ y ≤ 1000) (h1 : stepX x k = x') (h2 : stepY y k = y') :
    Calls Tryz.prog 141 #[.agg #[.int .i64 x, .int .i64 y], .int .i64 d] w fun e w' => e = .returned (.agg #[.int .i64 x', .int .i64 y']) ∧ Below w.heap.size w w' := by
  subst hd h1 h2; exact step_any _ _ _ _ h4 hx hy
theorem placeAt_at {A : Option Addr} {n c : Nat} {gs : List Gl} {ts : List Ti} {xs : List Pl} {x y r : Int} {w : World} (h2 : RdSl 3 RPl w A n xs) (hV : Valid gs ts xs) (h : placeI xs x y = r) :
    Calls Tryz.prog 140 #[.agg #[.slice A n c], .agg #[.int .i64 x, .int .i64 y]] w fun e w' => e = .returned (.int .i64 r) ∧ Below w.heap.size w w' := by
  subst h; exact placeAt_any _ _ _ gs ts xs _ _ _ h2 hV
set_option maxRecDepth 100000 in
set_option maxHeartbeats 400000 in
theorem neighbors1_in (n : Nat) (l Bn n₀ : Nat) (A : Option Addr) (na c : Nat) (gs : List Gl) (ts : List Ti) (xs : List Pl) (hV : Valid gs ts xs) (J Jx : List (NbT xs) → World → Prop)
    (hY : ∀ pre x W, J pre W → pre.length < 1010 → YieldAt Fence.wide (n - 1) Tryz.prog l (encN x) W fun e W' =>
      (e = .returned (.bool true) ∧ J (pre ++ [x]) W' ∧ KpN n₀ W W') ∨ (e = .returned (.bool false) ∧ Jx (pre ++ [x]) W'))
    (hJb : ∀ pre W1 W2, J pre W1 → Below W1.heap.size W1 W2 → J pre W2)
    (W : World) (hn₀ : n₀ ≤ W.heap.size) (hBn : W.heap[Bn]? = some (Obj.cells #[.slice A na c] 30)) (hL : RdSl 3 RPl W A na xs) (hL0 : 0 < na → ∀ b o, A = some ⟨b, o, none⟩ → b < n₀) (h0 : J [] W) :
    CallsIn Fence.wide n Tryz.prog 139 #[.func (.yield l) #[] #[], .pointer (some ⟨Bn, 0, none⟩)] W fun e W' => (∃ v, e = .returned v) ∧
      ((∃ ys, ys = nbAll xs xs.length ∧ J ys W') ∨ (∃ pre, True ∧ Jx pre W')) := by
  have hlen := hL.len
  have h5 := hV.len
  have hYh := Lib.hid hY
  have hJb := Lib.hid hJb
  rename_i hJb0
  clear hY hJb0
  refine callsIn_of_wp Tryz.func139 rfl trivial ?_ rfl
  simp only [Tryz.ntmps139, List.size_toArray, List.length_cons, List.length_nil, Nat.reduceAdd, Nat.reduceSub, Array.replicate_succ, Array.replicate_zero, List.push_toArray, List.append_toArray, List.nil_append, List.cons_append]
  have hcB : W.cell? ⟨Bn, 0, none⟩ = some (.slice A na c) := by simp [World.cell?, hBn]
  gi_wp2
  gi_loopw [11] (fun x wr => ∃ i : Nat, i ≤ na ∧ x = .int .i64 i ∧ J (nbAll xs i) wr ∧ KpN n₀ W wr) (fun x _ => na - (intOf x).toNat)
  case atStart => exact ⟨0, by omega, rfl, h0, Below.refl _ _, KeepT.refl _ _ _⟩
  case round =>
    obtain ⟨i, hi, rfl, hJs, hK⟩ := hrel
    by_cases hlt : i < na
    · obtain ⟨b, o, rfl, hb, hc⟩ := hL.ptr (by omega)
      have hbn : b < n₀ := hL0 (by omega) b o rfl
      obtain ⟨e, he⟩ := hL.get hlt
      obtain ⟨c0', c1', c2'⟩ := hc i e he
      have c0 := (hK.1.cell (p := ⟨b, o + i * 3, none⟩) hbn).trans c0'
      have c1 := (hK.1.cell (p := ⟨b, o + i * 3 + 1, none⟩) hbn).trans c1'
      have c2 := (hK.1.cell (p := ⟨b, o + i * 3 + 2, none⟩) hbn).trans c2'
      have hBw := hK.2 Bn _ _ hBn (by decide) (by decide)
      have hpt := hV.pt i e he
      have he := Lib.hid he
      have hLh := Lib.hid hL
      have hnW : n₀ ≤ wr.heap.size := Nat.le_trans hn₀ hK.1.size
      have hbw : b < wr.heap.size := Nat.lt_of_lt_of_le hb hK.1.size
      have hBnW : Bn < wr.heap.size := (Array.getElem?_eq_some_iff.1 hBw).1
      clear c0' c1' c2' hc hL
      gi_wp2
      obtain ⟨W0, hW0⟩ : ∃ W0, W0 = wr := ⟨_, rfl⟩
      subst hW0
      gi_loopw [18] (fun x wr => ∃ j : Nat, j ≤ 2 ∧ x = .int .i64 j ∧ J (nbUpto xs i j) wr ∧ KpN n₀ W wr ∧ wr.heap[W0.heap.size]? = some (Obj.cells #[.int .i64 e.x, .int .i64 e.y, .int .i64 e.t] 149) ∧
        wr.heap[W0.heap.size + 1]? = some (Obj.cells #[.int .i64 1, .int .i64 0] 2)) (fun x _ => 2 - (intOf x).toNat)
      case atStart => exact ⟨0, by omega, rfl, by (rw [nbUpto_zero]; exact hJb.out _ _ _ hJs (by exact bel_)), hK.t ⟨Below.mono (by exact bel_) hnW, KeepT.of_below (by exact bel_)⟩, (Below.heap_alloc _ _ _ (by simp)).trans (World.alloc_heap_new _ _), by (have := World.alloc_heap_new (W0.alloc (Obj.cells #[.int .i64 e.x, .int .i64 e.y, .int .i64 e.t] 149)) (Obj.cells #[.int .i64 1, .int .i64 0] 2); rwa [World.size_alloc] at this)⟩
      case round =>
        obtain ⟨j, hj, rfl, hJs2, hK2, ht0, ht1⟩ := hrel
        by_cases hj2 : j < 2
        · have h13 : j < 2 := hj2
          obtain ⟨d, hd⟩ : ∃ d, d = dirOf j := ⟨_, rfl⟩
          have hd4 : d < 4 := by rw [hd]; unfold dirOf; split <;> omega
          have q0 : wr.cell? ⟨W0.heap.size, 0, none⟩ = some (.int .i64 e.x) := by simp [World.cell?, ht0]
          have q1 : wr.cell? ⟨W0.heap.size, 1, none⟩ = some (.int .i64 e.y) := by simp [World.cell?, ht0]
          have q2 : wr.cell? ⟨W0.heap.size + 1, j, none⟩ = some (.int .i64 d) := by
            have : j = 0 ∨ j = 1 := by omega
            rcases this with rfl | rfl <;> (subst hd; simp [World.cell?, ht1, dirOf])
          have qB := hK2.2 Bn _ _ hBn (by decide) (by decide)
          have q3 : wr.cell? ⟨Bn, 0, none⟩ = some (.slice (some ⟨b, o, none⟩) na c) := by simp [World.cell?, qB]
          have qs0 : W0.heap.size < wr.heap.size := (Array.getElem?_eq_some_iff.1 ht0).1
          have qs1 : W0.heap.size + 1 < wr.heap.size := (Array.getElem?_eq_some_iff.1 ht1).1
          have qs2 : Bn < wr.heap.size := (Array.getElem?_eq_some_iff.1 qB).1
          have hLw := Lib.hid (hLh.out.below RPl.stable (Below.refl _ _))
          have hLW : RdSl 3 RPl wr (some ⟨b, o, none⟩) na xs := ⟨hLh.out.len, fun hh => ⟨b, o, rfl, Nat.lt_of_lt_of_le hb hK2.1.size, fun k hk => by
            obtain ⟨b', o', he', hb', hc'⟩ := hLh.out.cells hh
            obtain ⟨rfl, rfl⟩ : b = b' ∧ o = o' := by simpa using he'
            obtain ⟨r0, r1, r2⟩ := hc' k hk
            exact ⟨(hK2.1.cell hbn).trans r0, (hK2.1.cell hbn).trans r1, (hK2.1.cell hbn).trans r2⟩⟩⟩
          have hnbs := nbUpto_succ xs i j h13
          have hnbl := nbUpto_len xs i j
          rw [← hd] at hnbs
          have hnbs := Lib.hid hnbs
          have hnbl := Lib.hid hnbl
          have hLW := Lib.hid hLW
          have hdh := Lib.hid hd
          rename_i hnbs0 hnbl0 hLW0
          clear hnbs0 hnbl0 hLW0 hd
          rcases placeI_cases xs (stepX e.x d) (stepY e.y d) with hp | ⟨k, hp, hkx⟩
          · have hnn := Lib.hid (nb_none he.out hp)
            have hp := Lib.hid hp
            gi_wp2
            refine wpIn_region_ordW [(0, .q), (1, .q), (2, .q), (3, .q), (4, .g), (5, .g), (6, .q)] (by kernel_rfl) (by kernel_rfl) (by kernel_rfl) ?_
            simp only [pick, List.filterMap_cons, List.filterMap_nil, List.getElem?_toArray, List.getElem?_cons_zero, List.getElem?_cons_succ, Option.map_some]
            repeat (first
              | ((with_reducible refine wpD_p (fun K hK => ?_)); go_simp; refine hK _ ?_; clear hK K)
              | ((with_reducible refine wpD_q (fun K hK => ?_)); go_simp; (first | refine hK _ ?_ | (go_bits; refine hK _ ?_) | (go_bits; go_simp; refine hK _ ?_)); clear hK K)
              | ((with_reducible refine wpD_g (fun K hK => ?_)); go_simp; refine hK _ _ ?_; clear hK K)
              | ((with_reducible refine wpD_g (fun K hK => ?_)); go_simp; refine ⟨Grew.of_alloc _, hK _ _ ?_⟩; clear hK K)
              | ((with_reducible refine wpD_g (fun K hK => ?_)); go_simp; go_at_call 141; refine (step_at d rfl hd4 ⟨by omega, by omega⟩ ⟨by omega, by omega⟩ rfl rfl).mono ?_; rintro e w1 ⟨rfl, hb1⟩; refine ⟨_, rfl, hb1, hK _ _ ?_⟩; clear hK K; obtain ⟨chb1, fhb1, shb1, thb1⟩ := bcell hb1)
              | ((with_reducible refine wpD_g (fun K hK => ?_)); go_simp; go_at_call 140; refine (placeAt_at (hLW.out.below RPl.stable (by exact bel_)) hV hp.out).mono ?_; rintro e w2 ⟨rfl, hb2⟩; refine ⟨_, rfl, hb2, hK _ _ ?_⟩; clear hK K; obtain ⟨chb2, fhb2, shb2, thb2⟩ := bcell hb2))
            with_reducible refine wpD_nil ?_
            have hbA : Below wr.heap.size wr w2 := by exact bel_
            have hK3 : KpN n₀ wr w2 := ⟨hbA.mono (Nat.le_trans hn₀ hK2.1.size), KeepT.of_below hbA⟩
            gi_wp2
            refine ⟨fun _ h => (by cases h), ?_⟩
            gi_wp2
            go_roundw
            case rel => exact ⟨j + 1, by omega, by go_num, by (rw [hnbs.out, hnn.out, List.append_nil]; exact hJb.out _ _ _ hJs2 hbA), hK2.t hK3, hK3.2 _ _ _ ht0 (by decide) (by decide), hK3.2 _ _ _ ht1 (by decide) (by decide)⟩
            case measure => simp [intOf]; omega
          · have hnn := Lib.hid (nb_some he.out hd4 hp hkx)
            have hp := Lib.hid hp
            gi_wp2
            refine wpIn_region_ordW [(0, .q), (1, .q), (2, .q), (3, .q), (4, .g), (5, .g), (6, .q)] (by kernel_rfl) (by kernel_rfl) (by kernel_rfl) ?_
            simp only [pick, List.filterMap_cons, List.filterMap_nil, List.getElem?_toArray, List.getElem?_cons_zero, List.getElem?_cons_succ, Option.map_some]
            repeat (first
              | ((with_reducible refine wpD_p (fun K hK => ?_)); go_simp; refine hK _ ?_; clear hK K)
              | ((with_reducible refine wpD_q (fun K hK => ?_)); go_simp; (first | refine hK _ ?_ | (go_bits; refine hK _ ?_) | (go_bits; go_simp; refine hK _ ?_)); clear hK K)
              | ((with_reducible refine wpD_g (fun K hK => ?_)); go_simp; refine hK _ _ ?_; clear hK K)
              | ((with_reducible refine wpD_g (fun K hK => ?_)); go_simp; refine ⟨Grew.of_alloc _, hK _ _ ?_⟩; clear hK K)
              | ((with_reducible refine wpD_g (fun K hK => ?_)); go_simp; go_at_call 141; refine (step_at d rfl hd4 ⟨by omega, by omega⟩ ⟨by omega, by omega⟩ rfl rfl).mono ?_; rintro e w1 ⟨rfl, hb1⟩; refine ⟨_, rfl, hb1, hK _ _ ?_⟩; clear hK K; obtain ⟨chb1, fhb1, shb1, thb1⟩ := bcell hb1)
              | ((with_reducible refine wpD_g (fun K hK => ?_)); go_simp; go_at_call 140; refine (placeAt_at (hLW.out.below RPl.stable (by exact bel_)) hV hp.out).mono ?_; rintro e w2 ⟨rfl, hb2⟩; refine ⟨_, rfl, hb2, hK _ _ ?_⟩; clear hK K; obtain ⟨chb2, fhb2, shb2, thb2⟩ := bcell hb2))
            with_reducible refine wpD_nil ?_
            have hbA : Below wr.heap.size wr w2 := by exact bel_
            have hK3 : KpN n₀ wr w2 := ⟨hbA.mono (Nat.le_trans hn₀ hK2.1.size), KeepT.of_below hbA⟩
            obtain ⟨fn, tmps, assign, body, hy, hR⟩ := hYh.out _ ⟨(i, k, d), by rw [hlen]; exact hlt, hkx, hd4⟩ w2 (hJb.out _ _ _ hJs2 hbA) (by have := hnbl.out; omega)
            simp only [encN] at hy
            gi_wp2
            refine ⟨fun h => (by cases h), hR.mono ?_⟩
            rintro e3 W3 (⟨rfl, hJ3, hk3⟩ | ⟨rfl, hJx3⟩)
            · gi_wp2
              go_roundw
              case rel => exact ⟨j + 1, by omega, by go_num, by (rw [hnbs.out, hnn.out]; exact hJ3), (hK2.t hK3).t hk3, hk3.2 _ _ _ (hK3.2 _ _ _ ht0 (by decide) (by decide)) (by decide) (by decide), hk3.2 _ _ _ (hK3.2 _ _ _ ht1 (by decide) (by decide)) (by decide) (by decide)⟩
              case measure => simp [intOf]; omega
            · gi_wp2
              refine bodyPost_ret (results_none rfl _ _ _) rfl ?_
              exact ⟨⟨_, rfl⟩, .inr ⟨_, trivial, hJx3⟩⟩
        · obtain rfl : j = 2 := by omega
          gi_wp2
          go_roundw
          case rel => exact ⟨i + 1, by omega, by go_num, by rw [← nbUpto_two]; exact hJs2, hK2⟩
          case measure => simp [intOf]; omega
    · obtain rfl : i = na := by omega
      gi_wp2
      go_end0
      exact ⟨⟨_, rfl⟩, .inl ⟨_, by rw [hlen], hJs⟩⟩
theorem neighbors_stops (n : Nat) (Bn n₀ : Nat) (A : Option Addr) (na c : Nat) (gs : List Gl) (ts : List Ti) (xs : List Pl) (hV : Valid gs ts xs) (w : World) (hn₀ : n₀ ≤ w.heap.size) (hBn : w.heap[Bn]? = some (Obj.cells #[.slice A na c] 30))
    (hL : RdSl 3 RPl w A na xs) (hL0 : 0 < na → ∀ b o, A = some ⟨b, o, none⟩ → b < n₀) :
    SeqStopsK Fence.wide n Tryz.prog 139 #[.pointer (some ⟨Bn, 0, none⟩)] (encN (xs := xs)) (KpN n₀) (fun ys => ys = nbAll xs xs.length) (fun _ => True) 1010 w := fun l J Jx W hW hJ _ hY h0 =>
  neighbors1_in n l Bn n₀ A na c gs ts xs hV J Jx hY (fun pre W1 W2 hj hb => hJ pre W1 W2 none hj (grown_below hb none) (fun r e => by cases e)) W (Nat.le_trans hn₀ hW.size)
    ((hW.block Bn (Array.getElem?_eq_some_iff.1 hBn).1).trans hBn) (hL.below RPl.stable hW) hL0 h0
end Go.Proofs.YtmhgjgclclnmaaaGreat
