import Derived.Test.YtglcpphfmmnmkaaGreatKT
import Derived.Test.YtglcpphfmmnmkaaGreatPts
import Derived.Test.YtglcpphfmmnmkaaGreatKH
import Derived.Test.YtglcpphfmmnmkaaGreatW17a
import Derived.Test.YtglcpphfmmnmkaaGreatHTo
import Derived.Lib.LazyBuf
import Derived.Lib.SliceRun
set_option linter.unusedSimpArgs false
set_option linter.unusedVariables false
/- Plain: wrong, missing and loose points of a damaged assembly. -/



namespace Go.Proofs.YtglcpphfmmnmkaaGreat
open Go.RowKit Go.Shelf
def toPt (e : Pl) : Pt := ⟨e.x, e.y⟩
/-- the points of the first k tiles that the right assembly does not have so -/
noncomputable def errL (rs ys : List Pl) : Nat → List Pt
  | 0 => []
  | k + 1 => errL rs ys k ++ (match ys[k]? with
    | some e => if atI rs e.x e.y = e.t then [] else [toPt e]
    | none => [])
/-- the points of the first k tiles of the right assembly that are free -/
noncomputable def lackL (ys rs : List Pl) : Nat → List Pt
  | 0 => []
  | k + 1 => lackL ys rs k ++ (match rs[k]? with
    | some e => if atI ys e.x e.y < 0 then [toPt e] else []
    | none => [])
section
variable {rs ys : List Pl} {k : Nat} {e : Pl}
theorem errL_no (he : ys[k]? = some e) (h : atI rs e.x e.y = e.t) : errL rs ys (k + 1) = errL rs ys k := by simp only [errL, he]; rw [if_pos h, List.append_nil]
theorem errL_yes (he : ys[k]? = some e) (h : ¬ atI rs e.x e.y = e.t) : errL rs ys (k + 1) = errL rs ys k ++ [toPt e] := by simp only [errL, he]; rw [if_neg h]
theorem lackL_no (he : rs[k]? = some e) (h : ¬ atI ys e.x e.y < 0) : lackL ys rs (k + 1) = lackL ys rs k := by simp only [lackL, he]; rw [if_neg h, List.append_nil]
theorem lackL_yes (he : rs[k]? = some e) (h : atI ys e.x e.y < 0) : lackL ys rs (k + 1) = lackL ys rs k ++ [toPt e] := by simp only [lackL, he]; rw [if_pos h]
theorem errL_len (rs ys : List Pl) : ∀ k, (errL rs ys k).length ≤ k
  | 0 => Nat.le_refl _
  | k + 1 => by
    have := errL_len rs ys k
    simp only [errL, List.length_append]
    split
    · split <;> simp <;> omega
    · simp; omega
theorem lackL_len (ys rs : List Pl) : ∀ k, (lackL ys rs k).length ≤ k
  | 0 => Nat.le_refl _
  | k + 1 => by
    have := lackL_len ys rs k
    simp only [lackL, List.length_append]
    split
    · split <;> simp <;> omega
    · simp; omega
end
/-- the tile and the point at an index -/
def plOf (ys : List Pl) (i : Int) : Pl := match ys[i.toNat]? with
  | some e => e
  | none => ⟨0, 0, 0⟩
def ptOf (ys : List Pl) (i : Int) : Pt := toPt (plOf ys i)
theorem plOf_at {ys : List Pl} {k : Nat} {e : Pl} (he : ys[k]? = some e) : plOf ys (k : Int) = e := by
  unfold plOf
  rw [show ((k : Nat) : Int).toNat = k by omega, he]
theorem looseN_lt (gs : List Gl) (ts : List Ti) (xs ys : List Pl) (t : Int) : ∀ k, ∀ v ∈ looseN gs ts xs ys t k, ∃ i : Nat, v = (i : Int) ∧ i < k
  | 0, v, h => by simp [looseN, looseL] at h
  | k + 1, v, h => by
    unfold looseN at h
    simp only [looseL, List.map_append, List.mem_append] at h
    rcases h with h | h
    · obtain ⟨i, h1, h2⟩ := looseN_lt gs ts xs ys t k v h
      exact ⟨i, h1, by omega⟩
    · split at h
      · split at h
        · simp at h
          exact ⟨k, h, by omega⟩
        · simp at h
      · simp at h
structure Dm where
  p : List Pt
  q : List Pt
  r : List Pt
noncomputable def repI (gs : List Gl) (ts : List Ti) (xs : List Pl) (t : Int) (rs ys : List Pl) : Int :=
  if (growB gs ts xs t rs && growB gs ts xs t ys) = false then 1 else if (withinB xs rs && withinB xs ys) = false then 2 else 0
theorem repI_zero {gs : List Gl} {ts : List Ti} {xs : List Pl} {t : Int} {rs ys : List Pl} (h : repI gs ts xs t rs ys = 0) : growB gs ts xs t rs = true ∧ growB gs ts xs t ys = true := by
  unfold repI at h
  cases h1 : growB gs ts xs t rs
  · rw [h1] at h; simp at h
  · cases h2 : growB gs ts xs t ys
    · rw [h1, h2] at h; simp at h
    · exact ⟨rfl, rfl⟩
noncomputable def losP (gs : List Gl) (ts : List Ti) (xs : List Pl) (t : Int) (ys : List Pl) : List Pt := (looseN gs ts xs ys t ys.length).map (ptOf ys)
noncomputable def dmgR (gs : List Gl) (ts : List Ti) (xs : List Pl) (t : Int) (rs ys : List Pl) : Dm × Int :=
  if repI gs ts xs t rs ys ≠ 0 then (⟨[], [], []⟩, repI gs ts xs t rs ys) else (⟨lackL ys rs rs.length, errL rs ys ys.length, losP gs ts xs t ys⟩, 0)
section
variable {gs : List Gl} {ts : List Ti} {xs : List Pl} {t : Int} {rs ys : List Pl}
theorem dmgR_no {r : Int} (h : repI gs ts xs t rs ys = r) (h0 : r ≠ 0) : ((⟨[], [], []⟩, r) : Dm × Int) = dmgR gs ts xs t rs ys := by unfold dmgR; rw [h, if_pos h0]
theorem dmgR_yes (h : repI gs ts xs t rs ys = 0) : ((⟨lackL ys rs rs.length, errL rs ys ys.length, losP gs ts xs t ys⟩, 0) : Dm × Int) = dmgR gs ts xs t rs ys := by unfold dmgR; rw [h, if_neg (by decide)]
theorem dmgR_len (gs : List Gl) (ts : List Ti) (xs : List Pl) (t : Int) (rs ys : List Pl) : (dmgR gs ts xs t rs ys).1.p.length ≤ 1000 ∧ (dmgR gs ts xs t rs ys).1.q.length ≤ 1000 ∧ (dmgR gs ts xs t rs ys).1.r.length ≤ 1000 := by
  unfold dmgR
  split
  · simp
  · rename_i h
    have h0 : repI gs ts xs t rs ys = 0 := by simpa using h
    have h1 := (valid_of (growB_true (repI_zero h0).1).2).len
    have h2 := (valid_of (growB_true (repI_zero h0).2).2).len
    have h3 := lackL_len ys rs rs.length
    have h4 := errL_len rs ys ys.length
    have h5 := looseN_len gs ts xs ys t ys.length
    refine ⟨show (lackL ys rs rs.length).length ≤ 1000 by omega, show (errL rs ys ys.length).length ≤ 1000 by omega, ?_⟩
    show (losP gs ts xs t ys).length ≤ 1000
    unfold losP
    rw [List.length_map]
    omega
end
theorem cell_two_new (w : World) (a b : Value) (t : TypeId) : ∀ j u, [a, b][j]? = some u → (w.alloc (.cells #[a, b] t)).cell? ((⟨w.heap.size, 0, none⟩ : Addr).add j) = some u := by
  intro j u hj
  match j, hj with
  | 0, hj => simp at hj; subst hj; simp [Addr.add]
  | 1, hj => simp at hj; subst hj; simp [Addr.add]
  | j + 2, hj => simp at hj
/-- a row of points of the call's own -/
def PtsOwn (w : World) (l : List Pt) (e : Ending) (w' : World) : Prop :=
  ∃ A c, e = .returned (.slice A l.length c) ∧ w'.ownsRow w.heap.size 86 2 (.slice A l.length c) l.length (ptCells l) ∧ Below w.heap.size w w'
theorem infoPtW : (Tryz.prog.info? 86).map (fun i => (i.zero, i.size, i.bytes)) = some (some (.agg #[.int .i64 0, .int .i64 0]), 2, 16) := by kernel_rfl
end Go.Proofs.YtglcpphfmmnmkaaGreat
/- Walk: the harness' comparison of rows of points. -/


namespace Go.Proofs.YtglcpphfmmnmkaaGreat
open Go.RowKit
attribute [local go_sem] BelowBy.cell BelowBy.cell_drew stillUpon givesUpon

set_option maxHeartbeats 1000000 in
theorem eqPointS_same (A B : Option Addr) (n c d : Nat) (xs : List Pt) (w : World) (h1 : RdSl 2 RPt w A n xs) (h2 : RdSl 2 RPt w B n xs) (hn : n ≤ 1073741824) :
    Calls Tryz.prog 17 #[.slice A n c, .slice B n d] w fun e w' => e = .returned (.bool true) ∧ Below w.heap.size w w' := by
  
  go_enter Tryz.func17, Tryz.ntmps17
  go_wp2
  go_loopg [5] n (fun g i wr => ∃ k : Nat, k + g = n ∧ i = .int .i64 k ∧ Below w.heap.size w wr)
  case atStart => exact ⟨0, by omega, rfl, Below.refl _ _⟩
  case round =>
    obtain ⟨k, hk, rfl, hbw⟩ := hrel
    have r1 := h1.below RPt.stable hbw
    have r2 := h2.below RPt.stable hbw
    by_cases hlt : k < n
    · obtain ⟨b, o, rfl, hb, hc⟩ := r1.ptr (by omega)
      obtain ⟨b2, o2, rfl, hb2, hc2⟩ := r2.ptr (by omega)
      obtain ⟨e, he⟩ := h1.get hlt
      obtain ⟨c1, c1b⟩ := hc k e he
      obtain ⟨c2, c2b⟩ := hc2 k e he
      clear hc hc2 he r1 r2
      go_wp2
      refine wp_region_ord [(0, .q), (1, .q), (2, .q), (3, .q), (4, .q), (5, .q), (6, .q), (7, .q), (8, .g), (9, .q)] (by kernel_rfl) (by kernel_rfl) ?_
      simp only [pick, List.filterMap_cons, List.filterMap_nil, List.getElem?_toArray, List.getElem?_cons_zero, List.getElem?_cons_succ, Option.map_some]
      repeat (first
        | ((with_reducible refine wpD_p (fun K hK => ?_)); go_simp; refine hK _ ?_; clear hK K)
        | ((with_reducible refine wpD_q (fun K hK => ?_)); go_simp; (first | refine hK _ ?_ | (go_bits; refine hK _ ?_) | (go_bits; go_simp; refine hK _ ?_)); clear hK K)
        | ((with_reducible refine wpD_g (fun K hK => ?_)); go_simp; refine hK _ _ ?_; clear hK K)
        | ((with_reducible refine wpD_g (fun K hK => ?_)); go_simp; refine ⟨Grew.of_alloc _, hK _ _ ?_⟩; clear hK K)
        | ((with_reducible refine wpD_g (fun K hK => ?_)); go_simp; go_at_call 47; refine (eqPoint_same _ _ _).mono ?_; rintro e w1 ⟨rfl, hb1⟩; refine ⟨_, rfl, hb1, hK _ _ ?_⟩; clear hK K; obtain ⟨chb1, fhb1, shb1, thb1⟩ := bcell hb1; (try have bhb10 := shb1 (b) (by go_simp)); (try have bhb11 := shb1 (b2) (by go_simp))))
      with_reducible refine wpD_nil ?_
      go_wp2
      go_roundg (n - (k + 1))
      case measure => omega
      case rel => exact ⟨k + 1, by omega, by go_num, (by exact bel_)⟩
    · obtain rfl : k = n := by omega
      go_wp2
      go_ret
      exact ⟨rfl, hbw⟩
end Go.Proofs.YtglcpphfmmnmkaaGreat
/- Walks: the harness' marks on rows of points, what they leave, and what 'held' says of it. -/



namespace Go.Proofs.YtglcpphfmmnmkaaGreat
open Go.RowKit
attribute [local go_sem] BelowBy.cell BelowBy.cell_drew stillUpon givesUpon

set_option maxRecDepth 100000 in
set_option maxHeartbeats 2000000 in
theorem markPointS_zero (A : Option Addr) (c k : Nat) (w : World) :
    Calls Tryz.prog 20 #[.slice A 0 c, .int .i64 (k : Int)] w fun e w' => e = .returned (.int .i64 (k : Int)) ∧ w = w' := by
  go_enter Tryz.func20, Tryz.ntmps20
  go_wp2
  refine wp_loop_rounds 1 ?_
  rw [rounds_succ]
  go_wp2
  go_ret
  exact ⟨rfl, rfl⟩
set_option maxRecDepth 100000 in
set_option maxHeartbeats 2000000 in
theorem markPointS_core (g N n c k : Nat) (f0 : Nat → Value) (w : World) (hrow0 : w.rowIs g 86 N f0) (hN : n * 2 ≤ N) (hk : k + 2 * n ≤ 4611686018427387904) :
    Calls Tryz.prog 20 #[.slice (some ⟨g, 0, none⟩) n c, .int .i64 (k : Int)] w (MkCore 86 2 g N n k w (k + 2 * n)) := by
  have hg1 : g ≤ g := Nat.le_refl _
  have hg2 : g < g + 1 := Nat.lt_succ_self _
  go_enter Tryz.func20, Tryz.ntmps20
  go_wp2
  go_loopg [5, 1] n (fun r x kk wr => ∃ (i : Nat) (f : Nat → Value), i + r = n ∧ x = .int .i64 (i : Int) ∧ kk = .int .i64 ((k + 2 * i : Nat) : Int) ∧ wr.rowIs g 86 N f ∧ (∀ j, j < i * 2 → f j = .int .i64 ((k + j : Nat) : Int)) ∧ Mk g (g + 1) w wr)
  case atStart => exact ⟨0, f0, by omega, rfl, rfl, hrow0, fun j hj => by omega, Mk.refl _ _ _⟩
  case round =>
    obtain ⟨i, f, hi', rfl, rfl, hrow, hcont, hm⟩ := hrel
    have hcontH := Lib.hid hcont
    have hmH := Lib.hid hm
    clear hcont hm
    by_cases hlt : i < n
    · obtain ⟨j0, hj⟩ : ∃ j0, j0 = k + 2 * i := ⟨_, rfl⟩
      have hki : (0 : Int) ≤ (j0 : Int) := by omega
      have hki2 : (j0 : Int) + 2 < 4611686018427387910 := by omega
      have hjH := Lib.hid hj
      rw [← hj]
      clear hj
      have hc0 := hrow.cell (i := i * 2) (by omega)
      have hf0 := hrow.frozen (i * 2)
      have hc1 := hrow.cell (i := i * 2 + 1) (by omega)
      have hf1 := hrow.frozen (i * 2 + 1)
      have hrowH := Lib.hid hrow
      clear hrow
      go_wp2
      go_roundg (n - (i + 1))
      case measure => omega
      case rel => exact ⟨i + 1, _, by omega, by go_num, by (have := hjH.out; rw [show k + 2 * (i + 1) = j0 + 1 + 1 by omega]; go_num), ((hrowH.out.set (i * 2) _).set (i * 2 + 1) _), fun j hj => (by
        have hcont := hcontH.out
        have h0 := hjH.out
        rcases (show j < i * 2 ∨ j = i * 2 ∨ j = i * 2 + 1 by omega) with hjj | hjj | hjj
        · rw [if_neg (by omega), if_neg (by omega)]; exact hcont j hjj
        · rw [if_neg (by omega), if_pos (by omega)]; exact congrArg (Value.int IntKind.i64) (by have := hjH.out; omega)
        · rw [if_pos (by omega)]; exact congrArg (Value.int IntKind.i64) (by have := hjH.out; omega)), (((hmH.out).set (p := ⟨g, i * 2, none⟩) hg1 hg2 _).set (p := ⟨g, i * 2 + 1, none⟩) hg1 hg2 _)⟩
    · obtain rfl : i = n := by omega
      go_wp2
      go_ret
      exact ⟨rfl, hmH.out, f, hrow, hcontH.out⟩
theorem markPointS_c (A : Option Addr) (n c k lo hi : Nat) (w : World) (h : MkRow 86 2 lo hi w A n) (hh : hi ≤ w.heap.size) (hl : lo ≤ w.heap.size) (hk : k + 2 * n ≤ 4611686018427387904) :
    Calls Tryz.prog 20 #[.slice A n c, .int .i64 (k : Int)] w (MkResC 86 2 lo hi A n k w (k + 2 * n)) := by
  by_cases hn : n = 0
  · subst hn
    refine (markPointS_zero A c k w).mono ?_
    rintro e w' ⟨rfl, rfl⟩
    exact ⟨rfl, Mk.refl _ _ _, fun h => by omega⟩
  · obtain ⟨g, N, f0, rfl, hg1, hg2, hrow0, hN⟩ := h (by omega)
    refine (markPointS_core g N n c k f0 w hrow0 hN hk).mono ?_
    rintro e w' ⟨he, hm, f, hrow, hcont⟩
    exact ⟨he, hm.weaken hg1 (by omega), fun _ => ⟨g, N, f, rfl, hg1, hg2, hrow, hN, hcont⟩⟩
theorem markPointS_any (A : Option Addr) (n c k lo hi : Nat) (w : World) (h : MkRow 86 2 lo hi w A n) (hh : hi ≤ w.heap.size) (hl : lo ≤ w.heap.size) (hk : k + 2 * n ≤ 4611686018427387904) :
    Calls Tryz.prog 20 #[.slice A n c, .int .i64 (k : Int)] w (MkRes lo hi w (k + 2 * n)) :=
  (markPointS_c A n c k lo hi w h hh hl hk).mono fun _ _ h => ⟨h.1, h.2.1⟩

theorem markPointS_any2 (A : Option Addr) (n c k lo hi : Nat) (w : World) (h : MkRow 86 2 lo hi w A n) (hh : hi ≤ w.heap.size) (hl : lo ≤ w.heap.size) (hk : k + 2 * n ≤ 4611686018427387904) :
    Calls Tryz.prog 20 #[.slice A n c, .int .i64 (k : Int)] w (MkRes2 lo hi w k (k + 2 * n)) :=
  (markPointS_any A n c k lo hi w h hh hl hk).mono fun _ _ h => ⟨_, h.1, by omega, Nat.le_refl _, h.2⟩
theorem rdPts {W : World} {base : Nat} {A : Option Addr} {n c : Nat} {bs : List Pt} (h : W.ownsRow base 86 2 (.slice A n c) n (ptCells bs)) (hn : n = bs.length := by rfl) : RdSl 2 RPt W A n bs := by
  subst hn
  obtain ⟨A', cap, e, h'⟩ := rdPt_of_row h
  injection e with e1 e2 e3
  subst e1
  exact h'
set_option maxRecDepth 100000 in
set_option maxHeartbeats 2000000 in
theorem heldPointS_any (A : Option Addr) (n c k lo hi : Nat) (w : World) (h : Marked 86 2 lo hi w A n k) (hk : k + 2 * n ≤ 4611686018427387904) :
    Calls Tryz.prog 61 #[.slice A n c, .int .i64 (k : Int)] w fun e w' => e = .returned (.int .i64 ((k + 2 * n : Nat) : Int)) ∧ w = w' := by
  go_enter Tryz.func61, Tryz.ntmps61
  go_wp2
  go_loopg [5, 1] n (fun r x kk wr => ∃ i : Nat, i + r = n ∧ x = .int .i64 (i : Int) ∧ kk = .int .i64 ((k + 2 * i : Nat) : Int) ∧ w = wr)
  case atStart => exact ⟨0, by omega, rfl, rfl, rfl⟩
  case round =>
    obtain ⟨i, hi', rfl, rfl, rfl⟩ := hrel
    by_cases hlt : i < n
    · obtain ⟨j0, hj⟩ : ∃ j0, j0 = k + 2 * i := ⟨_, rfl⟩
      have hki : (0 : Int) ≤ (j0 : Int) := by omega
      have hki2 : (j0 : Int) + 2 < 4611686018427387910 := by omega
      have hjH := Lib.hid hj
      rw [← hj]
      obtain ⟨g, N, f, rfl, hg1, hg2, hrow, hN, hcont⟩ := h (by omega)
      have hc0 := hrow.cell (i := i * 2) (by omega)
      rw [hcont (i * 2) (by omega), show ((k + (i * 2) : Nat) : Int) = (j0 : Int) by omega] at hc0
      have hc1 := hrow.cell (i := i * 2 + 1) (by omega)
      rw [hcont (i * 2 + 1) (by omega), show ((k + (i * 2 + 1) : Nat) : Int) = (j0 : Int) + 1 by omega] at hc1
      clear hj hrow hcont h
      go_wp2
      go_roundg (n - (i + 1))
      case measure => omega
      case rel => exact ⟨i + 1, by omega, by go_num, by (have := hjH.out; rw [show k + 2 * (i + 1) = j0 + 1 + 1 by omega]; go_num), rfl⟩
    · obtain rfl : i = n := by omega
      go_wp2
      go_ret
      exact ⟨rfl, rfl⟩
end Go.Proofs.YtglcpphfmmnmkaaGreat
/- A damage as a result: three rows of points. -/





namespace Go.Proofs.YtglcpphfmmnmkaaGreat
open Go.RowKit
attribute [local go_sem] BelowBy.cell BelowBy.cell_drew stillUpon givesUpon BelowBy.cell_drew2 BelowBy.cell_drew3

/-- three rows of points of the call's own, no two in one block -/
def Own3 (W : World) (lo hi : Nat) (A B C : Option Addr) (ca cb cc : Nat) (l : Dm) : Prop :=
  ∃ m1 m2, lo ≤ m1 ∧ m1 ≤ m2 ∧ m2 ≤ hi ∧
    (W.ownsRow lo 86 2 (.slice B l.q.length cb) l.q.length (ptCells l.q) ∧ ∀ g, (Value.slice B l.q.length cb).ownBlock = some g → g < m1) ∧
    (W.ownsRow m1 86 2 (.slice A l.p.length ca) l.p.length (ptCells l.p) ∧ ∀ g, (Value.slice A l.p.length ca).ownBlock = some g → g < m2) ∧
    (W.ownsRow m2 86 2 (.slice C l.r.length cc) l.r.length (ptCells l.r) ∧ ∀ g, (Value.slice C l.r.length cc).ownBlock = some g → g < hi)
section
variable {W W' : World} {lo hi : Nat} {A B C : Option Addr} {ca cb cc : Nat} {l : Dm}
theorem Own3.below (h : Own3 W lo hi A B C ca cb cc l) (hb : Below W.heap.size W W') : Own3 W' lo hi A B C ca cb cc l := by
  obtain ⟨m1, m2, h1, h2, h3, hq, hp, hr⟩ := h
  exact ⟨m1, m2, h1, h2, h3, ⟨ownsRow_below hq.1 hb, hq.2⟩, ⟨ownsRow_below hp.1 hb, hp.2⟩, ⟨ownsRow_below hr.1 hb, hr.2⟩⟩
theorem Own3.rebase {lo' : Nat} (h : Own3 W lo hi A B C ca cb cc l) (hl : lo' ≤ lo) : Own3 W lo' hi A B C ca cb cc l := by
  obtain ⟨m1, m2, h1, h2, h3, hq, hp, hr⟩ := h
  exact ⟨m1, m2, by omega, h2, h3, ⟨ownsRow_base hq.1 hl, hq.2⟩, hp, hr⟩
theorem Own3.mkd {lo' hi' : Nat} (h : Own3 W lo hi A B C ca cb cc l) (hm : Mk lo' hi' W W') (hl : hi' ≤ lo) : Own3 W' lo hi A B C ca cb cc l := by
  obtain ⟨m1, m2, h1, h2, h3, hq, hp, hr⟩ := h
  exact ⟨m1, m2, h1, h2, h3, ⟨ownsRow_mk hq.1 hm hl, hq.2⟩, ⟨ownsRow_mk hp.1 hm (by omega), hp.2⟩, ⟨ownsRow_mk hr.1 hm (by omega), hr.2⟩⟩
theorem Own3.fl {g N i : Nat} {T : TypeId} {f : Nat → Value} (h : Own3 W lo hi A B C ca cb cc l) (hr : W.rowIs g T N f) (hne : 86 ≠ T) (u : Value) : Own3 (W.setCell ⟨g, i, none⟩ u) lo hi A B C ca cb cc l := by
  obtain ⟨m1, m2, h1, h2, h3, hq, hp, hr'⟩ := h
  exact ⟨m1, m2, h1, h2, h3, ⟨ownsRow_setCell_other (a := ⟨g, i, none⟩) hq.1 (own_ne_row hq.1 hr hne) u, hq.2⟩, ⟨ownsRow_setCell_other (a := ⟨g, i, none⟩) hp.1 (own_ne_row hp.1 hr hne) u, hp.2⟩, ⟨ownsRow_setCell_other (a := ⟨g, i, none⟩) hr'.1 (own_ne_row hr'.1 hr hne) u, hr'.2⟩⟩
theorem Own3.rd (h : Own3 W lo hi A B C ca cb cc l) : RdSl 2 RPt W A l.p.length l.p ∧ RdSl 2 RPt W B l.q.length l.q ∧ RdSl 2 RPt W C l.r.length l.r := by
  obtain ⟨m1, m2, h1, h2, h3, hq, hp, hr⟩ := h
  exact ⟨rdPts hp.1, rdPts hq.1, rdPts hr.1⟩
theorem Own3.empty (W : World) {n : Nat} (h : n ≤ W.heap.size) : Own3 W n W.heap.size none none none 0 0 0 ⟨[], [], []⟩ :=
  ⟨n, n, Nat.le_refl _, Nat.le_refl _, h, ⟨World.ownsRow_nil _ _ _ _, fun g e => by cases e⟩, ⟨World.ownsRow_nil _ _ _ _, fun g e => by cases e⟩, ⟨World.ownsRow_nil _ _ _ _, fun g e => by cases e⟩⟩
/-- all three are marked -/
def Marked3 (W : World) (lo hi : Nat) (A B C : Option Addr) (l : Dm) (k : Nat) : Prop :=
  ∃ m1 m2, lo ≤ m1 ∧ m1 ≤ m2 ∧ m2 ≤ hi ∧ Marked 86 2 m1 m2 W A l.p.length k ∧ Marked 86 2 lo m1 W B l.q.length (k + 2 * l.p.length) ∧ Marked 86 2 m2 hi W C l.r.length (k + 2 * l.p.length + 2 * l.q.length)
theorem Marked3.below {k : Nat} (h : Marked3 W lo hi A B C l k) (hb : Below W.heap.size W W') (hh : hi ≤ W.heap.size) : Marked3 W' lo hi A B C l k := by
  obtain ⟨m1, m2, h1, h2, h3, ha, hb', hc⟩ := h
  exact ⟨m1, m2, h1, h2, h3, ha.below hb (by omega), hb'.below hb (by omega), hc.below hb hh⟩
end
/-- a damage and a code -/
def DmgRes (w : World) (r : Dm × Int) (e : Ending) (w' : World) : Prop :=
  ∃ A B C ca cb cc, e = .returned (.tuple #[.agg #[.slice A r.1.p.length ca, .slice B r.1.q.length cb, .slice C r.1.r.length cc], .int .i64 r.2]) ∧ Own3 w' w.heap.size w'.heap.size A B C ca cb cc r.1 ∧ Below w.heap.size w w'
set_option maxHeartbeats 1000000 in
theorem eqDamage_same (A B C A2 B2 C2 : Option Addr) (ca cb cc ca2 cb2 cc2 : Nat) (l : Dm) (w : World) (h1 : RdSl 2 RPt w A l.p.length l.p ∧ RdSl 2 RPt w B l.q.length l.q ∧ RdSl 2 RPt w C l.r.length l.r) (h2 : RdSl 2 RPt w A2 l.p.length l.p ∧ RdSl 2 RPt w B2 l.q.length l.q ∧ RdSl 2 RPt w C2 l.r.length l.r)
    (hn : l.p.length ≤ 1000 ∧ l.q.length ≤ 1000 ∧ l.r.length ≤ 1000) :
    Calls Tryz.prog 24 #[.agg #[.slice A l.p.length ca, .slice B l.q.length cb, .slice C l.r.length cc], .agg #[.slice A2 l.p.length ca2, .slice B2 l.q.length cb2, .slice C2 l.r.length cc2]] w fun e w' => e = .returned (.bool true) ∧ Below w.heap.size w w' := by
  
  have h1H := Lib.hid h1
  have h2H := Lib.hid h2
  obtain ⟨n1, n2, n3⟩ := hn
  clear h1 h2
  go_enter Tryz.func24, Tryz.ntmps24
  go_wp2_with fail
  refine (eqPointS_same _ _ _ _ _ l.p _ (h1H.out.1.below RPt.stable (by exact bel_)) (h2H.out.1.below RPt.stable (by exact bel_)) (by omega)).mono ?_
  rintro e w1 ⟨rfl, hb1⟩
  have hB1 := Lib.hid (show Below w.heap.size w w1 by exact bel_)
  obtain ⟨chb1, fhb1, shb1, thb1⟩ := bcell hb1
  have b0 := shb1 w.heap.size (by go_simp)
  have b1 := shb1 (w.heap.size + 1) (by go_simp)
  go_wp2_with fail
  refine (eqPointS_same _ _ _ _ _ l.q _ (h1H.out.2.1.below RPt.stable hB1.out) (h2H.out.2.1.below RPt.stable hB1.out) (by omega)).mono ?_
  rintro e w2 ⟨rfl, hb2⟩
  have hB2 := Lib.hid (hB1.out.trans (hb2.mono hB1.out.size))
  obtain ⟨chb2, fhb2, shb2, thb2⟩ := bcell hb2
  have b2 := shb2 w.heap.size (by go_simp)
  have b3 := shb2 (w.heap.size + 1) (by go_simp)
  go_wp2_with fail
  refine (eqPointS_same _ _ _ _ _ l.r _ (h1H.out.2.2.below RPt.stable hB2.out) (h2H.out.2.2.below RPt.stable hB2.out) (by omega)).mono ?_
  rintro e w3 ⟨rfl, hb3⟩
  have hB3 := Lib.hid (hB2.out.trans (hb3.mono hB2.out.size))
  go_wp2
  go_ret
  exact ⟨rfl, hB3.out⟩
set_option maxHeartbeats 1000000 in
theorem markDamage_c (A B C : Option Addr) (ca cb cc k lo hi : Nat) (l : Dm) (w : World) (h : Own3 w lo hi A B C ca cb cc l) (hh : hi ≤ w.heap.size) (hl : lo ≤ w.heap.size) (hn : l.p.length ≤ 1000 ∧ l.q.length ≤ 1000 ∧ l.r.length ≤ 1000) (hk : k ≤ 4000000000000000000) :
    Calls Tryz.prog 25 #[.agg #[.slice A l.p.length ca, .slice B l.q.length cb, .slice C l.r.length cc], .int .i64 (k : Int)] w fun e w' => e = .returned (.int .i64 ((k + 2 * l.p.length + 2 * l.q.length + 2 * l.r.length : Nat) : Int)) ∧ Mk lo hi w w' ∧ Marked3 w' lo hi A B C l k := by
  obtain ⟨m1, m2, h1, h2, h3, hq, hp, hr⟩ := h
  obtain ⟨n1, n2, n3⟩ := hn
  have ha : Below w.heap.size w (w.alloc (.cells #[.slice A l.p.length ca, .slice B l.q.length cb, .slice C l.r.length cc] 58)) := bl_al (bl_refl _) _
  have haH := Lib.hid ha
  have hp0 := Lib.hid ((mkRow_hi hp.1 hp.2).below ha (by omega))
  have hq0 := Lib.hid ((mkRow_hi hq.1 hq.2).below ha (by omega))
  have hr0 := Lib.hid ((mkRow_hi hr.1 hr.2).below ha hh)
  clear hp hq hr ha
  go_enter Tryz.func25, Tryz.ntmps25
  go_wp2_with fail
  refine (markPointS_c A l.p.length ca k m1 m2 _ hp0.out (by simp; omega) (by simp; omega) (by omega)).mono ?_
  rintro e w1 ⟨rfl, hm1, hc1⟩
  have hm1H := Lib.hid hm1
  have hc1H := Lib.hid hc1
  have s1 := hm1.size
  simp only [World.size_alloc] at s1
  have y1 := (World.cell?_of_block (a := ⟨w.heap.size, 1, none⟩) (hm1.keep w.heap.size (by omega) (by go_simp))).trans (show _ = some (Value.slice B l.q.length cb) by go_simp)
  have y2 := (World.cell?_of_block (a := ⟨w.heap.size, 2, none⟩) (hm1.keep w.heap.size (by omega) (by go_simp))).trans (show _ = some (Value.slice C l.r.length cc) by go_simp)
  have hq1 := Lib.hid (hq0.out.keep fun i i1 i2 => hm1.below.block i (by omega))
  have hr1 := Lib.hid (hr0.out.keep fun i i1 i2 => hm1.keep i (by omega) (by simp; omega))
  clear hm1 hc1
  go_wp2_with fail
  refine (markPointS_c B l.q.length cb (k + 2 * l.p.length) lo m1 _ hq1.out (by omega) (by omega) (by omega)).mono ?_
  rintro e w2 ⟨rfl, hm2, hc2⟩
  have hm2H := Lib.hid hm2
  have hc2H := Lib.hid hc2
  have s2 := hm2.size
  have z2 := (World.cell?_of_block (a := ⟨w.heap.size, 2, none⟩) (hm2.keep w.heap.size (by omega) (by omega))).trans y2
  have hr2 := Lib.hid (hr1.out.keep fun i i1 i2 => hm2.keep i (by omega) (by omega))
  have hc12 := Lib.hid (hc1H.out.keep fun i i1 i2 => hm2.keep i (by omega) (by omega))
  clear hm2 hc2
  go_wp2_with fail
  refine (markPointS_c C l.r.length cc (k + 2 * l.p.length + 2 * l.q.length) m2 hi _ hr2.out (by omega) (by omega) (by omega)).mono ?_
  rintro e w3 ⟨rfl, hm3, hc3⟩
  have hm3H := Lib.hid hm3
  have hc3H := Lib.hid hc3
  have hc13 := Lib.hid (hc12.out.keep fun i i1 i2 => hm3.below.block i (by omega))
  have hc23 := Lib.hid (hc2H.out.keep fun i i1 i2 => hm3.below.block i (by omega))
  clear hm3 hc3
  go_wp2
  go_ret
  exact ⟨rfl, (((Mk.of_below haH.out hl).trans (hm1H.out.weaken h1 h3)).trans (hm2H.out.weaken (Nat.le_refl _) (by omega))).trans (hm3H.out.weaken (by omega) (Nat.le_refl _)), m1, m2, h1, h2, h3, hc13.out, hc23.out, hc3H.out⟩
set_option maxHeartbeats 1000000 in
theorem heldDamage_any (A B C : Option Addr) (ca cb cc k lo hi : Nat) (l : Dm) (w : World) (h : Marked3 w lo hi A B C l k) (hh : hi ≤ w.heap.size) (hn : l.p.length ≤ 1000 ∧ l.q.length ≤ 1000 ∧ l.r.length ≤ 1000) (hk : k ≤ 4000000000000000000) :
    Calls Tryz.prog 26 #[.agg #[.slice A l.p.length ca, .slice B l.q.length cb, .slice C l.r.length cc], .int .i64 (k : Int)] w fun e w' => e = .returned (.int .i64 ((k + 2 * l.p.length + 2 * l.q.length + 2 * l.r.length : Nat) : Int)) ∧ Below w.heap.size w w' := by
  obtain ⟨n1, n2, n3⟩ := hn
  have ha : Below w.heap.size w (w.alloc (.cells #[.slice A l.p.length ca, .slice B l.q.length cb, .slice C l.r.length cc] 58)) := bl_al (bl_refl _) _
  have haH := Lib.hid ha
  obtain ⟨m1, m2, h1, h2, h3, hp, hq, hr⟩ := h.below ha hh
  have hpH := Lib.hid hp
  have hqH := Lib.hid hq
  have hrH := Lib.hid hr
  clear h hp hq hr ha
  go_enter Tryz.func26, Tryz.ntmps26
  go_wp2_with fail
  refine (heldPointS_any A l.p.length ca k m1 m2 _ hpH.out (by omega)).mono ?_
  rintro e _ ⟨rfl, rfl⟩
  have k1 : (0 : Int) ≤ ((k + 2 * l.p.length : Nat) : Int) := by omega
  go_wp2_with fail
  refine (heldPointS_any B l.q.length cb (k + 2 * l.p.length) lo m1 _ hqH.out (by omega)).mono ?_
  rintro e _ ⟨rfl, rfl⟩
  have k2 : (0 : Int) ≤ ((k + 2 * l.p.length + 2 * l.q.length : Nat) : Int) := by omega
  go_wp2_with fail
  refine (heldPointS_any C l.r.length cc (k + 2 * l.p.length + 2 * l.q.length) m2 hi _ hrH.out (by omega)).mono ?_
  rintro e _ ⟨rfl, rfl⟩
  have k3 : (0 : Int) ≤ ((k + 2 * l.p.length + 2 * l.q.length + 2 * l.r.length : Nat) : Int) := by omega
  go_wp2
  go_ret
  exact ⟨rfl, haH.out⟩
end Go.Proofs.YtglcpphfmmnmkaaGreat
/- Small words: a damage in a block of its own; rows that stay. -/

namespace Go.Proofs.YtglcpphfmmnmkaaGreat
open Go.RowKit Go.Shelf

structure DgQ (w : World) (p : Nat) (a b c : Value) : Prop where
  lt : p < w.heap.size
  c0 : w.cell? ⟨p, 0, none⟩ = some a
  c1 : w.cell? ⟨p, 1, none⟩ = some b
  c2 : w.cell? ⟨p, 2, none⟩ = some c
  f0 : w.frozen? ⟨p, 0, none⟩ = false
  f1 : w.frozen? ⟨p, 1, none⟩ = false
  f2 : w.frozen? ⟨p, 2, none⟩ = false
theorem DgQ.below {B p : Nat} {w w' : World} {a b c : Value} (h : DgQ w p a b c) (hb : Below B w w') (hp : p < B) : DgQ w' p a b c :=
  ⟨Nat.lt_of_lt_of_le h.lt hb.size, (hb.cell (p := ⟨p, 0, none⟩) hp).trans h.c0, (hb.cell (p := ⟨p, 1, none⟩) hp).trans h.c1, (hb.cell (p := ⟨p, 2, none⟩) hp).trans h.c2, (hb.frozen (p := ⟨p, 0, none⟩) hp).trans h.f0, (hb.frozen (p := ⟨p, 1, none⟩) hp).trans h.f1, (hb.frozen (p := ⟨p, 2, none⟩) hp).trans h.f2⟩
theorem DgQ.new (w : World) (a b c : Value) (t : TypeId) : DgQ (w.alloc (.cells #[a, b, c] t)) w.heap.size a b c :=
  ⟨by simp, by go_simp, by go_simp, by go_simp, by go_simp, by go_simp, by go_simp⟩
theorem DgQ.set0 {p : Nat} {w : World} {a b c u : Value} (h : DgQ w p a b c) : DgQ (w.setCell ⟨p, 0, none⟩ u) p u b c := by
  obtain ⟨h1, h2, h3, h4, h5, h6, h7⟩ := h
  exact ⟨by simpa using h1, by go_simp, by go_simp, by go_simp, by go_simp, by go_simp, by go_simp⟩
theorem DgQ.set2 {p : Nat} {w : World} {a b c u : Value} (h : DgQ w p a b c) : DgQ (w.setCell ⟨p, 2, none⟩ u) p a b u := by
  obtain ⟨h1, h2, h3, h4, h5, h6, h7⟩ := h
  exact ⟨by simpa using h1, by go_simp, by go_simp, by go_simp, by go_simp, by go_simp, by go_simp⟩
theorem Mk.step {lo hi : Nat} {a b c : World} (h : Mk lo hi a b) (hb : Below a.heap.size b c) (hl : lo ≤ a.heap.size) : Mk lo hi a c :=
  ⟨h.below.trans (hb.mono hl), Nat.le_trans h.size hb.size, fun i h1 h2 => (hb.block i h2).trans (h.keep i h1 h2)⟩
theorem ownsRow_belowB {w w' : World} {base B0 : Nat} {e : TypeId} {size : Nat} {v : Value} {n : Nat} {xs : List Value} (h : w.ownsRow base e size v n xs) (hlt : ∀ g, v.ownBlock = some g → g < B0) (hb : Below B0 w w') : w'.ownsRow base e size v n xs := by
  obtain ⟨h1, h2⟩ := h
  refine ⟨h1, ?_⟩
  rcases h2 with h2 | ⟨g, cap, cur, hv, hg, hh, r⟩
  · exact .inl h2
  · exact .inr ⟨g, cap, cur, hv, hg, (hb.block g (hlt g (by rw [hv]; rfl))).trans hh, r⟩
theorem own_set3 {W : World} {b s : Nat} {e : TypeId} {size : Nat} {v : Value} {n : Nat} {xs : List Value} (h : W.ownsRow b e size v n xs) (hs : s < b) (u0 u1 u2 : Value) : (((W.setCell ⟨s, 0, none⟩ u0).setCell ⟨s, 1, none⟩ u1).setCell ⟨s, 2, none⟩ u2).ownsRow b e size v n xs :=
  ownsRow_setCell_below (ownsRow_setCell_below (ownsRow_setCell_below h (a := ⟨s, 0, none⟩) hs u0) (a := ⟨s, 1, none⟩) hs u1) (a := ⟨s, 2, none⟩) hs u2
theorem Own3.final {W : World} {lo b m1 m2 s : Nat} {A B C : Option Addr} {ca cb cc : Nat} {l : Dm} {u0 u1 u2 : Value}
    (hB : W.ownsRow b 86 2 (.slice B l.q.length cb) l.q.length (ptCells l.q)) (hBl : ∀ g, (Value.slice B l.q.length cb).ownBlock = some g → g < m1)
    (hA : W.ownsRow m1 86 2 (.slice A l.p.length ca) l.p.length (ptCells l.p)) (hAl : ∀ g, (Value.slice A l.p.length ca).ownBlock = some g → g < m2)
    (hC : W.ownsRow m2 86 2 (.slice C l.r.length cc) l.r.length (ptCells l.r)) (h0 : lo ≤ b) (h1 : b ≤ m1) (h2 : m1 ≤ m2) (h3 : m2 ≤ W.heap.size) (hs : s < b) :
    Own3 (((W.setCell ⟨s, 0, none⟩ u0).setCell ⟨s, 1, none⟩ u1).setCell ⟨s, 2, none⟩ u2) lo (((W.setCell ⟨s, 0, none⟩ u0).setCell ⟨s, 1, none⟩ u1).setCell ⟨s, 2, none⟩ u2).heap.size A B C ca cb cc l :=
  ⟨m1, m2, Nat.le_trans h0 h1, h2, by simpa using h3, ⟨ownsRow_base (own_set3 hB hs u0 u1 u2) h0, hBl⟩, ⟨own_set3 hA (by omega) u0 u1 u2, hAl⟩, ⟨own_set3 hC (by omega) u0 u1 u2, fun g e => by have := (hC.lt g e).2; simpa using this⟩⟩
theorem DmgRes.of {w w' : World} {r : Dm × Int} {l : Dm} {c : Int} {A B C : Option Addr} {np nq nr ca cb cc : Nat} (h : (l, c) = r) (h1 : np = l.p.length) (h2 : nq = l.q.length) (h3 : nr = l.r.length) (ho : Own3 w' w.heap.size w'.heap.size A B C ca cb cc l) (hb : Below w.heap.size w w') :
    DmgRes w r (.returned (.tuple #[.agg #[.slice A np ca, .slice B nq cb, .slice C nr cc], .int .i64 c])) w' := by
  subst h h1 h2 h3
  exact ⟨A, B, C, ca, cb, cc, rfl, ho, hb⟩
end Go.Proofs.YtglcpphfmmnmkaaGreat
/- Words on rows of placed tiles; such a row copied. -/




namespace Go.Proofs.YtglcpphfmmnmkaaGreat
open Go.RowKit Go.Shelf
attribute [local go_sem] BelowBy.cell BelowBy.cell_drew stillUpon givesUpon BelowBy.cell_drew2 BelowBy.cell_drew3

def plCells : List Pl → List Value
  | [] => []
  | b :: l => .int .i64 b.x :: .int .i64 b.y :: .int .i64 b.t :: plCells l
theorem plCells_len (l : List Pl) : (plCells l).length = l.length * 3 := by
  induction l with
  | nil => rfl
  | cons b l ih => simp only [plCells, List.length_cons, ih]; omega
theorem plCells_snoc (l : List Pl) (b : Pl) : plCells (l ++ [b]) = plCells l ++ [.int .i64 b.x, .int .i64 b.y, .int .i64 b.t] := by
  induction l with
  | nil => rfl
  | cons a l ih => simp [plCells, ih]
theorem plCells_one (bs : List Pl) : ∀ u ∈ plCells bs, u.oneCell' = true := by
  induction bs with
  | nil => simp [plCells]
  | cons b l ih =>
    intro u hu
    simp only [plCells, List.mem_cons] at hu
    rcases hu with rfl | rfl | rfl | hu
    · rfl
    · rfl
    · rfl
    · exact ih u hu
theorem plCells_get : ∀ (bs : List Pl) (k : Nat) (e : Pl), bs[k]? = some e → (plCells bs)[k * 3]? = some (.int .i64 e.x) ∧ (plCells bs)[k * 3 + 1]? = some (.int .i64 e.y) ∧ (plCells bs)[k * 3 + 2]? = some (.int .i64 e.t)
  | [], k, e, h => by simp at h
  | b :: bs, 0, e, h => by
    simp at h
    subst h
    simp [plCells]
  | b :: bs, k + 1, e, h => by
    have := plCells_get bs k e (by simpa using h)
    have h3 : (k + 1) * 3 = k * 3 + 1 + 1 + 1 := by omega
    rw [h3]
    simpa [plCells, Nat.add_assoc] using this
theorem plCells_set : ∀ (bs : List Pl) (k : Nat) (e : Pl) (x y : Int), bs[k]? = some e → ((plCells bs).set (k * 3) (.int .i64 x)).set (k * 3 + 1) (.int .i64 y) = plCells (bs.set k ⟨x, y, e.t⟩)
  | [], k, e, x, y, h => by simp at h
  | b :: bs, 0, e, x, y, h => by
    simp at h
    subst h
    simp [plCells]
  | b :: bs, k + 1, e, x, y, h => by
    have := plCells_set bs k e x y (by simpa using h)
    have h3 : (k + 1) * 3 = k * 3 + 1 + 1 + 1 := by omega
    rw [h3]
    simpa [plCells, Nat.add_assoc] using this
theorem plCells_of_rd {w : World} {b o : Nat} {xs : List Pl} (h : ∀ k e, xs[k]? = some e → RPl w b (o + k * 3) e) : ∀ j u, (plCells xs)[j]? = some u → w.cell? ((⟨b, o, none⟩ : Addr).add j) = some u := by
  intro j u hj
  have hlt := (List.getElem?_eq_some_iff.1 hj).1
  rw [plCells_len] at hlt
  obtain ⟨k, hk⟩ : ∃ k, j / 3 = k := ⟨_, rfl⟩
  obtain ⟨e, he⟩ : ∃ e, xs[k]? = some e := ⟨_, List.getElem?_eq_getElem (by omega)⟩
  obtain ⟨g0, g1, g2⟩ := plCells_get xs _ e he
  obtain ⟨c0, c1, c2⟩ := h _ e he
  rw [Addr.add_lit]
  have : j = k * 3 ∨ j = k * 3 + 1 ∨ j = k * 3 + 2 := by omega
  rcases this with rfl | rfl | rfl
  · rw [← Option.some.inj (g0.symm.trans hj)]; exact c0
  · rw [← Option.some.inj (g1.symm.trans hj), ← Nat.add_assoc]; exact c1
  · rw [← Option.some.inj (g2.symm.trans hj), ← Nat.add_assoc]; exact c2
theorem rdP_of_row {W : World} {base : Nat} {T : TypeId} {v : Value} {bs : List Pl} (h : W.ownsRow base T 3 v bs.length (plCells bs)) : ∃ A cap, v = .slice A bs.length cap ∧ RdSl 3 RPl W A bs.length bs := by
  rcases h.2 with ⟨rfl, h0⟩ | ⟨g, cap, cur, rfl, hb, hh, hn, hm, hs, ht⟩
  · exact ⟨none, 0, by rw [h0], rfl, fun hp => by omega⟩
  · refine ⟨_, cap, rfl, rfl, fun hp => ⟨g, 0, rfl, (Array.getElem?_eq_some_iff.1 hh).1, fun k hk => ?_⟩⟩
    have hg := plCells_get bs k _ (List.getElem?_eq_getElem hk)
    rw [← ht] at hg
    have hcell : ∀ j u, (cur.toList.take (bs.length * 3))[j]? = some u → W.cell? ⟨g, j, none⟩ = some u := fun j u hj => by
      rw [List.getElem?_take] at hj
      split at hj
      · simp only [World.cell?, hh]
        simpa using hj
      · cases hj
    rw [Nat.zero_add]
    exact ⟨hcell _ _ hg.1, hcell _ _ hg.2.1, hcell _ _ hg.2.2⟩
def OwnPl (w : World) (bs : List Pl) (e : Ending) (w' : World) : Prop := ∃ v, e = .returned v ∧ w'.ownsRow w.heap.size 100 3 v bs.length (plCells bs) ∧ Below w.heap.size w w'
set_option maxRecDepth 100000 in
set_option maxHeartbeats 1000000 in
theorem CloneP_any (A : Option Addr) (n c : Nat) (bs : List Pl) (w : World) (h : RdSl 3 RPl w A n bs) (hn : n ≤ 100000) :
    Calls Tryz.prog 92 #[.slice A n c] w (OwnPl w bs) := by
  obtain ⟨i0, hi, hz0, hz1, hz2⟩ := info_parts infoPl
  have hl := h.len
  have hq := fun W => Lib.run_eql_slice_nil (P := Tryz.prog) W 35 100 A n c 0 0 Tryz.underlying35
  cases A with
  | none =>
    have h0 : n = 0 := by
      rcases Nat.eq_zero_or_pos n with h0 | h0
      · exact h0
      · obtain ⟨b, o, e, _⟩ := h.cells h0; cases e
    subst h0
    have hb : bs = [] := List.eq_nil_of_length_eq_zero hl
    subst hb
    clear h
    go_enter Tryz.func92, Tryz.ntmps92
    go_wp2
    go_ret
    exact ⟨_, rfl, World.ownsRow_nil _ _ _ _, bl_refl _⟩
  | some ad =>
    have hcl : (∀ (ob : Obj) j u, (plCells bs)[j]? = some u → (w.alloc ob).cell? (ad.add j) = some u) := fun ob j u hj => by
      have hlt := (List.getElem?_eq_some_iff.1 hj).1
      rw [plCells_len] at hlt
      obtain ⟨b, o, e, hb, hc⟩ := h.ptr (by omega)
      injection e with e
      subst e
      refine Eq.trans (World.cell?_alloc_lt _ _ _ ?_) (plCells_of_rd hc j u hj)
      rw [Addr.add_lit]; exact hb
    have hclH := Lib.hid hcl
    have hlH := Lib.hid hl
    have hlen := plCells_len bs
    rw [hl] at hlen
    have hlenH := Lib.hid hlen
    clear h hl hcl hlen
    go_enter Tryz.func92, Tryz.ntmps92
    go_wp2_with (at_builtin; go_loud (refine wpList_append_own _ rfl _ _ 35 rfl w.heap.size 100 i0 (.agg #[.int .i64 0, .int .i64 0, .int .i64 0]) 3 24 Tryz.underlying35 hi hz0 hz1 hz2 rfl (by decide) _ 0 [] rfl (World.ownsRow_made _ _ _ (Nat.le_refl _) (by decide) rfl) ad n c (plCells bs) rfl hlenH.out (fun j u hj => hclH.out _ j u hj) (plCells_one bs) (by unfold maxLen; omega) (by omega) (by simp) ?_); intro v' w3 hown' hgrow _)
    go_ret
    refine ⟨_, rfl, ?_, ((Below.refl w.heap.size w).alloc (Nat.le_refl _) _).grown hgrow (by simp) (fun b' hb' => ?_)⟩
    · rw [hlH.out]
      simpa using hown'
    · have hb2 : some w.heap.size = some b' := hb'
      injection hb2 with hb3
      exact Nat.le_of_eq hb3
end Go.Proofs.YtglcpphfmmnmkaaGreat
/- Walks: points of an assembly; wrong points; a part of an assembly; the code of a repair; the program. -/


namespace Go.Proofs.YtglcpphfmmnmkaaGreat
open Go.RowKit Go.Shelf
attribute [local go_sem] BelowBy.cell BelowBy.cell_drew stillUpon givesUpon BelowBy.cell_drew2 BelowBy.cell_drew3

set_option maxRecDepth 100000 in
set_option maxHeartbeats 2000000 in
theorem points_any {C : Option Addr} {k cc : Nat} {zs : List Pl} {w : World} (h : RdSl 3 RPl w C k zs) (hk : k ≤ 100000) :
    Calls Tryz.prog 57 #[.agg #[.slice C k cc]] w (PtsOwn w (zs.map toPt)) := by
  obtain ⟨i0, hi, hz0, hz1, hz2⟩ := info_parts infoPtW
  
  have hC := Lib.hid h
  have hl := h.len
  clear h
  go_enter Tryz.func57, Tryz.ntmps57
  go_wp2
  go_loopg [9, 3] k (fun gk i v wr => ∃ (j : Nat) (A2 : Option Addr) (c2 : Nat), j + gk = k ∧ i = .int .i64 (j : Int) ∧ v = .slice A2 j c2 ∧ Hid (wr.ownsRow (w.heap.size + 1) 86 2 (.slice A2 j c2) j (ptCells ((zs.map toPt).take j))) ∧ Hid (Below w.heap.size w wr) ∧ w.heap.size + 1 ≤ wr.heap.size)
  case atStart => exact ⟨0, none, 0, by omega, rfl, rfl, Lib.hid (World.ownsRow_nil _ _ _ _), Lib.hid (by exact bel_), by simp⟩
  case round =>
    obtain ⟨j, A2, c2, hj, rfl, rfl, hrow, hbw, hsz⟩ := hrel
    by_cases hjk : j < k
    · have hAw := hC.out.below RPl.stable hbw.out
      obtain ⟨e, he⟩ := hAw.get hjk
      obtain ⟨b, ob, hCe, hb, hc⟩ := hAw.ptr (by omega)
      obtain ⟨d0, d1, d2⟩ := hc j e he
      subst hCe
      have hb' : b ≤ wr.heap.size := by omega
      have hjI : (j : Int) < (k : Int) := by omega
      have hj0 : (0 : Int) ≤ (j : Int) := by omega
      have hn := Lib.hid (show (zs.map toPt).take (j + 1) = (zs.map toPt).take j ++ [⟨e.x, e.y⟩] by rw [List.take_add_one, List.getElem?_map, he]; rfl)
      clear hc he hAw
      go_wp2_with (at_builtin; go_loud (refine wpList_append_own _ rfl _ _ 48 rfl (w.heap.size + 1) 86 i0 (.agg #[.int .i64 0, .int .i64 0]) 2 16 Tryz.underlying48 hi hz0 hz1 hz2 rfl (by decide) _ j _ rfl ((hrow.out.alloc _).alloc _) ⟨wr.heap.size + 1, 0, none⟩ 1 1 [.int .i64 e.x, .int .i64 e.y] rfl rfl (by have := cell_two_new (wr.alloc (Obj.cells #[.int .i64 e.x, .int .i64 e.y, .int .i64 e.t] 100)) (.int .i64 e.x) (.int .i64 e.y) 86; simpa using this) (fun x hx => by simp at hx; rcases hx with rfl | rfl <;> rfl) (by unfold maxLen; omega) (by omega) (by simp; omega) ?_; intro v' w4 hown' hgrow _; obtain ⟨A5, c5, rfl⟩ := ownsRow_form hown'; have hownH := Lib.hid hown'; have hb4 := Lib.hid (show Below (w.heap.size + 1) (wr.alloc (Obj.cells #[.int .i64 e.x, .int .i64 e.y, .int .i64 e.t] 100)) w4 from below_app (by (try simp); omega) (fun g e => (hrow.out.lt g e).1) hgrow); clear hown' hgrow))
      have s4 := hb4.out.size
      simp only [World.size_alloc] at s4
      go_wp2
      go_roundg (k - (j + 1))
      case measure => omega
      case rel => exact ⟨j + 1, A5, c5, by omega, by go_num, rfl, Lib.hid (by rw [hn.out, ptCells_snoc]; exact hownH.out), Lib.hid (hbw.out.trans (((bl_al (bl_refl _) _).mono (by omega)).trans (hb4.out.mono (by omega)))), by omega⟩
    · obtain rfl : j = k := by omega
      have ht := Lib.hid (show (zs.map toPt).take j = zs.map toPt from List.take_of_length_le (by rw [List.length_map, hl]; exact Nat.le_refl _))
      have hln := Lib.hid (show (zs.map toPt).length = j by rw [List.length_map, hl])
      have hrow2 := Lib.hid (ownsRow_base hrow.out (show w.heap.size ≤ w.heap.size + 1 by omega))
      go_wp2
      go_ret
      exact ⟨A2, c2, by rw [hln.out]; first | done | rfl, by rw [hln.out]; have := hrow2.out; rw [ht.out] at this; exact this, hbw.out⟩
set_option maxRecDepth 100000 in
set_option maxHeartbeats 4000000 in
theorem errorsOf_any {D C : Option Addr} {kd cd k cc : Nat} {gs : List Gl} {ts : List Ti} {rs ys : List Pl} {w : World} (h1 : RdSl 3 RPl w D kd rs) (hV : Valid gs ts rs) (h : RdSl 3 RPl w C k ys) (hk : k ≤ 100000) :
    Calls Tryz.prog 56 #[.agg #[.slice D kd cd], .agg #[.slice C k cc]] w (PtsOwn w (errL rs ys k)) := by
  obtain ⟨i0, hi, hz0, hz1, hz2⟩ := info_parts infoPtW
  
  have hD := Lib.hid h1
  have hC := Lib.hid h
  have hl := h.len
  clear h h1
  go_enter Tryz.func56, Tryz.ntmps56
  go_wp2
  go_loopg [11, 5] k (fun gk i v wr => ∃ (j : Nat) (A2 : Option Addr) (c2 : Nat), j + gk = k ∧ i = .int .i64 (j : Int) ∧ v = .slice A2 (errL rs ys j).length c2 ∧ Hid (wr.ownsRow (w.heap.size + 2) 86 2 (.slice A2 (errL rs ys j).length c2) (errL rs ys j).length (ptCells (errL rs ys j))) ∧ Hid (Below w.heap.size w wr) ∧ w.heap.size + 2 ≤ wr.heap.size ∧ wr.cell? ⟨w.heap.size, 0, none⟩ = some (.slice D kd cd))
  case atStart => exact ⟨0, none, 0, by omega, rfl, rfl, Lib.hid (World.ownsRow_nil _ _ _ _), Lib.hid (by exact bel_), by simp, by go_simp⟩
  case round =>
    obtain ⟨j, A2, c2, hj, rfl, rfl, hrow, hbw, hsz, x0⟩ := hrel
    have e0 : w.heap.size < wr.heap.size := by omega
    have e1 : w.heap.size + 1 < wr.heap.size := by omega
    obtain ⟨L, hL⟩ : ∃ L, errL rs ys j = L := ⟨_, rfl⟩
    have hLl : L.length ≤ 100000 := by rw [← hL]; exact Nat.le_trans (errL_len rs ys j) (by omega)
    rw [hL] at hrow
    rw [hL]
    have hLH := Lib.hid hL
    clear hL
    obtain ⟨N, hN⟩ : ∃ N, L.length = N := ⟨_, rfl⟩
    rw [hN] at hrow hLl
    rw [hN]
    have hNH := Lib.hid hN
    clear hN
    by_cases hjk : j < k
    · have hAw := hC.out.below RPl.stable hbw.out
      have hDw := Lib.hid (hD.out.below RPl.stable hbw.out)
      obtain ⟨e, he⟩ := hAw.get hjk
      obtain ⟨b, ob, hCe, hb, hc⟩ := hAw.ptr (by omega)
      obtain ⟨d0, d1, d2⟩ := hc j e he
      subst hCe
      have hb' : b ≤ wr.heap.size := by omega
      have hjI : (j : Int) < (k : Int) := by omega
      have hj0 : (0 : Int) ≤ (j : Int) := by omega
      obtain ⟨a, ha⟩ : ∃ a, atI rs e.x e.y = a := ⟨_, rfl⟩
      have haH := Lib.hid ha
      have hb9 : Below wr.heap.size wr (wr.alloc (Obj.cells #[.int .i64 e.x, .int .i64 e.y, .int .i64 e.t] 100)) := bl_al (bl_refl _) _
      have hb9H := Lib.hid hb9
      clear hb9
      by_cases hae : a = e.t
      · have hn := Lib.hid (show errL rs ys (j + 1) = L by rw [← hLH.out]; exact errL_no he (ha.trans hae))
        have hd : (a == e.t) = true := by simpa using hae
        clear hc he hAw ha hae
        go_wp2
        refine wp_region_ord [(0, .q), (1, .q), (2, .q), (4, .q), (5, .q), (3, .g), (6, .q)] (by kernel_rfl) (by kernel_rfl) ?_
        simp only [pick, List.filterMap_cons, List.filterMap_nil, List.getElem?_toArray, List.getElem?_cons_zero, List.getElem?_cons_succ, Option.map_some]
        repeat (first
          | ((with_reducible refine wpD_p (fun K hK => ?_)); go_simp; refine hK _ ?_; clear hK K)
          | ((with_reducible refine wpD_q (fun K hK => ?_)); go_simp; (first | refine hK _ ?_ | (go_bits; refine hK _ ?_) | (go_bits; go_simp; refine hK _ ?_)); clear hK K)
          | ((with_reducible refine wpD_g (fun K hK => ?_)); go_simp; refine hK _ _ ?_; clear hK K)
          | ((with_reducible refine wpD_g (fun K hK => ?_)); go_simp; refine ⟨Grew.of_alloc _, hK _ _ ?_⟩; clear hK K)
          | ((with_reducible refine wpD_g (fun K hK => ?_)); go_simp; go_at_call 58; refine (at_at (hDw.out.below RPl.stable (by exact bel_)) hV haH.out).mono ?_; rintro e w1 ⟨rfl, hb1⟩; refine ⟨_, rfl, hb1, hK _ _ ?_⟩; clear hK K; obtain ⟨chb1, fhb1, shb1, thb1⟩ := bcell hb1; (try have bhb10 := shb1 (w.heap.size) (by go_simp)); (try have bhb11 := shb1 (w.heap.size + 1) (by go_simp)); have k0 := (hb1.cell (p := ⟨w.heap.size, 0, none⟩) (by (try simp); omega)).trans (show _ = some (Value.slice D kd cd) by go_simp); have q2 := (hb1.cell (p := ⟨wr.heap.size, 2, none⟩) (by simp)).trans (show _ = some (Value.int .i64 e.t) by go_simp)))
        with_reducible refine wpD_nil ?_
        have hB1 := Lib.hid (show Below wr.heap.size wr w1 by exact bel_)
        have s1 := hB1.out.size
        go_wp2
        go_roundg (k - (j + 1))
        case measure => omega
        case rel => exact ⟨j + 1, A2, c2, by omega, by go_num, by rw [hn.out, hNH.out], Lib.hid (by rw [hn.out, hNH.out]; exact ownsRow_below hrow.out (by have h9 := hB1.out; exact bel_)), Lib.hid (hbw.out.trans (Below.mono (by have h9 := hB1.out; exact bel_) (show w.heap.size ≤ wr.heap.size by omega))), by (try simp only [World.size_drew]); omega, by go_simp⟩
      · have hn := Lib.hid (show errL rs ys (j + 1) = L ++ [⟨e.x, e.y⟩] by rw [← hLH.out]; exact errL_yes he (fun h => hae (ha.symm.trans h)))
        have hd : (a == e.t) = false := by simpa using hae
        clear hc he hAw ha hae
        go_wp2
        refine wp_region_ord [(0, .q), (1, .q), (2, .q), (4, .q), (5, .q), (3, .g), (6, .q)] (by kernel_rfl) (by kernel_rfl) ?_
        simp only [pick, List.filterMap_cons, List.filterMap_nil, List.getElem?_toArray, List.getElem?_cons_zero, List.getElem?_cons_succ, Option.map_some]
        repeat (first
          | ((with_reducible refine wpD_p (fun K hK => ?_)); go_simp; refine hK _ ?_; clear hK K)
          | ((with_reducible refine wpD_q (fun K hK => ?_)); go_simp; (first | refine hK _ ?_ | (go_bits; refine hK _ ?_) | (go_bits; go_simp; refine hK _ ?_)); clear hK K)
          | ((with_reducible refine wpD_g (fun K hK => ?_)); go_simp; refine hK _ _ ?_; clear hK K)
          | ((with_reducible refine wpD_g (fun K hK => ?_)); go_simp; refine ⟨Grew.of_alloc _, hK _ _ ?_⟩; clear hK K)
          | ((with_reducible refine wpD_g (fun K hK => ?_)); go_simp; go_at_call 58; refine (at_at (hDw.out.below RPl.stable (by exact bel_)) hV haH.out).mono ?_; rintro e w1 ⟨rfl, hb1⟩; refine ⟨_, rfl, hb1, hK _ _ ?_⟩; clear hK K; obtain ⟨chb1, fhb1, shb1, thb1⟩ := bcell hb1; (try have bhb10 := shb1 (w.heap.size) (by go_simp)); (try have bhb11 := shb1 (w.heap.size + 1) (by go_simp)); have k0 := (hb1.cell (p := ⟨w.heap.size, 0, none⟩) (by (try simp); omega)).trans (show _ = some (Value.slice D kd cd) by go_simp); have q0 := (hb1.cell (p := ⟨wr.heap.size, 0, none⟩) (by simp)).trans (show _ = some (Value.int .i64 e.x) by go_simp); have q1 := (hb1.cell (p := ⟨wr.heap.size, 1, none⟩) (by simp)).trans (show _ = some (Value.int .i64 e.y) by go_simp); have q2 := (hb1.cell (p := ⟨wr.heap.size, 2, none⟩) (by simp)).trans (show _ = some (Value.int .i64 e.t) by go_simp)))
        with_reducible refine wpD_nil ?_
        have hB1 := Lib.hid (show Below wr.heap.size wr w1 by exact bel_)
        have s1 := hB1.out.size
        go_wp2_with (at_builtin; go_loud (refine wpList_append_own _ rfl _ _ 48 rfl (w.heap.size + 2) 86 i0 (.agg #[.int .i64 0, .int .i64 0]) 2 16 Tryz.underlying48 hi hz0 hz1 hz2 rfl (by decide) _ N _ rfl ((ownsRow_below hrow.out (by have h9 := hB1.out; exact bel_)).alloc _) ⟨w1.heap.size, 0, none⟩ 1 1 [.int .i64 e.x, .int .i64 e.y] rfl rfl (cell_two_new _ _ _ _) (fun x hx => by simp at hx; rcases hx with rfl | rfl <;> rfl) (by unfold maxLen; omega) (by omega) (by (try simp only [World.size_alloc, World.size_drew]); omega) ?_; intro v' w4 hown' hgrow _; obtain ⟨A5, c5, rfl⟩ := ownsRow_form hown'; have hownH := Lib.hid hown'; have hb4 := Lib.hid (below_app (B0 := w.heap.size + 2) (by (try simp only [World.size_drew]); omega) (fun g e => (hrow.out.lt g e).1) hgrow); clear hown' hgrow))
        have s4 := hb4.out.size
        try simp only [World.size_drew] at s4
        have k1 := (hb4.out.cell (p := ⟨w.heap.size, 0, none⟩) (by simp)).trans (show _ = some (Value.slice D kd cd) by go_simp)
        go_wp2
        go_roundg (k - (j + 1))
        case measure => omega
        case rel => exact ⟨j + 1, A5, c5, by omega, by go_num, by rw [hn.out, List.length_append, hNH.out]; rfl, Lib.hid (by rw [hn.out, List.length_append, hNH.out, ptCells_snoc]; exact hownH.out), Lib.hid (hbw.out.trans (Below.trans (Below.mono (by have h9 := hB1.out; exact bel_) (show w.heap.size ≤ wr.heap.size by omega)) (hb4.out.mono (by omega)))), by omega, k1⟩
    · obtain rfl : j = k := by omega
      have hrow2 := Lib.hid (ownsRow_base hrow.out (show w.heap.size ≤ w.heap.size + 2 by omega))
      go_wp2
      go_ret
      exact ⟨A2, c2, by rw [hLH.out, hNH.out]; first | done | rfl, by rw [hLH.out, hNH.out]; exact hrow2.out, hbw.out⟩
set_option maxRecDepth 100000 in
set_option maxHeartbeats 4000000 in
theorem repairCode_at {G T A D C : Option Addr} {n cg m ct q ca kd cd k cc : Nat} {gs : List Gl} {ts : List Ti} {xs rs ys : List Pl} {t : Int} {w : World} (h : SA w G n T m A q gs ts xs) (h1 : SA w G n T m D kd gs ts rs) (h2 : SA w G n T m C k gs ts ys) {r : Int} (hr : repI gs ts xs t rs ys = r) :
    Calls Tryz.prog 55 #[.agg #[.slice G n cg, .slice T m ct, .slice A q ca, .int .i64 t], .agg #[.slice D kd cd], .agg #[.slice C k cc]] w fun e w' => e = .returned (.int .i64 r) ∧ Below w.heap.size w w' := by
  
  have hS := Lib.hid h
  have hD := Lib.hid h1
  have hC := Lib.hid h2
  have hrH := Lib.hid hr
  clear h h1 h2 hr
  cases hg1 : growB gs ts xs t rs
  · have hg1H := Lib.hid hg1
    have hres := Lib.hid (show 1 = r by rw [← hrH.out]; unfold repI; rw [hg1]; rfl)
    clear hg1
    go_enter Tryz.func55, Tryz.ntmps55
    go_wp2_with (go_at_call 104; refine (growthCode_at (hS.out.below (by exact bel_)) (hD.out.below (by exact bel_)) hg1H.out).mono ?_; simp only [codeB_false]; rintro e w1 ⟨rfl, hb1⟩)
    go_ret
    exact ⟨ret_int hres.out, by exact bel_⟩
  · have hg1H := Lib.hid hg1
    cases hg2 : growB gs ts xs t ys
    · have hg2H := Lib.hid hg2
      have hres := Lib.hid (show 1 = r by rw [← hrH.out]; unfold repI; rw [hg1, hg2]; rfl)
      clear hg1 hg2
      go_enter Tryz.func55, Tryz.ntmps55
      go_wp2_with fail
      refine (growthCode_at (hS.out.below (by exact bel_)) (hD.out.below (by exact bel_)) hg1H.out).mono ?_
      simp only [codeB_true]
      rintro e w1 ⟨rfl, hb1⟩
      have hB1 := Lib.hid (show Below w.heap.size w w1 by exact bel_)
      obtain ⟨chb1, fhb1, shb1, thb1⟩ := bcell hb1
      have b0 := shb1 w.heap.size (by go_simp)
      have b1 := shb1 (w.heap.size + 1) (by go_simp)
      have b2 := shb1 (w.heap.size + 2) (by go_simp)
      go_wp2_with fail
      refine (growthCode_at (hS.out.below hB1.out) (hC.out.below hB1.out) hg2H.out).mono ?_
      simp only [codeB_false]
      rintro e w2 ⟨rfl, hb2⟩
      have hB2 := Lib.hid (hB1.out.trans (hb2.mono hB1.out.size))
      go_wp2
      go_ret
      exact ⟨ret_int hres.out, hB2.out⟩
    · have hg2H := Lib.hid hg2
      have hfx := Lib.hid (formB_true (sysOkB_valid (growB_true hg1).1).1)
      have hVd := valid_of (growB_true hg1).2
      have hVc := valid_of (growB_true hg2).2
      have hfd := Lib.hid (formB_true (growB_true hg1).2)
      have hfc := Lib.hid (formB_true (growB_true hg2).2)
      have hqx := hS.out.q
      have hqd := hD.out.q
      have hqc := hC.out.q
      cases hw1 : withinB xs rs
      · have hw1H := Lib.hid hw1
        have hres := Lib.hid (show (2 : Int) = r by rw [← hrH.out]; unfold repI; rw [hg1, hg2, hw1]; rfl)
        clear hg1 hg2 hw1
        go_enter Tryz.func55, Tryz.ntmps55
        go_wp2_with fail
        refine (growthCode_at (hS.out.below (by exact bel_)) (hD.out.below (by exact bel_)) hg1H.out).mono ?_
        simp only [codeB_true]
        rintro e w1 ⟨rfl, hb1⟩
        have hB1 := Lib.hid (show Below w.heap.size w w1 by exact bel_)
        obtain ⟨chb1, fhb1, shb1, thb1⟩ := bcell hb1
        have b0 := shb1 w.heap.size (by go_simp)
        have b1 := shb1 (w.heap.size + 1) (by go_simp)
        have b2 := shb1 (w.heap.size + 2) (by go_simp)
        go_wp2_with fail
        refine (growthCode_at (hS.out.below hB1.out) (hC.out.below hB1.out) hg2H.out).mono ?_
        simp only [codeB_true]
        rintro e w2 ⟨rfl, hb2⟩
        have hB2 := Lib.hid (hB1.out.trans (hb2.mono hB1.out.size))
        obtain ⟨chb2, fhb2, shb2, thb2⟩ := bcell hb2
        have c0 := shb2 w.heap.size (by go_simp)
        have c1 := shb2 (w.heap.size + 1) (by go_simp)
        have c2 := shb2 (w.heap.size + 2) (by go_simp)
        go_wp2_with fail
        refine (IsWithin_at (hS.out.A.below RPl.stable hB2.out) (hD.out.A.below RPl.stable hB2.out) hqx hqd hfx.out hfd.out hVd hw1H.out).mono ?_
        rintro e w3 ⟨rfl, hb3⟩
        have hB3 := Lib.hid (hB2.out.trans (hb3.mono hB2.out.size))
        go_wp2
        go_ret
        exact ⟨ret_int hres.out, hB3.out⟩
      · have hw1H := Lib.hid hw1
        cases hw2 : withinB xs ys
        all_goals
          have hw2H := Lib.hid hw2
          first
            | have hres := Lib.hid (show (2 : Int) = r by rw [← hrH.out]; unfold repI; rw [hg1, hg2, hw1, hw2]; rfl)
            | have hres := Lib.hid (show (0 : Int) = r by rw [← hrH.out]; unfold repI; rw [hg1, hg2, hw1, hw2]; rfl)
          clear hg1 hg2 hw1 hw2
          go_enter Tryz.func55, Tryz.ntmps55
          go_wp2_with fail
          refine (growthCode_at (hS.out.below (by exact bel_)) (hD.out.below (by exact bel_)) hg1H.out).mono ?_
          simp only [codeB_true]
          rintro e w1 ⟨rfl, hb1⟩
          have hB1 := Lib.hid (show Below w.heap.size w w1 by exact bel_)
          obtain ⟨chb1, fhb1, shb1, thb1⟩ := bcell hb1
          have b0 := shb1 w.heap.size (by go_simp)
          have b1 := shb1 (w.heap.size + 1) (by go_simp)
          have b2 := shb1 (w.heap.size + 2) (by go_simp)
          go_wp2_with fail
          refine (growthCode_at (hS.out.below hB1.out) (hC.out.below hB1.out) hg2H.out).mono ?_
          simp only [codeB_true]
          rintro e w2 ⟨rfl, hb2⟩
          have hB2 := Lib.hid (hB1.out.trans (hb2.mono hB1.out.size))
          obtain ⟨chb2, fhb2, shb2, thb2⟩ := bcell hb2
          have c0 := shb2 w.heap.size (by go_simp)
          have c1 := shb2 (w.heap.size + 1) (by go_simp)
          have c2 := shb2 (w.heap.size + 2) (by go_simp)
          go_wp2_with fail
          refine (IsWithin_at (hS.out.A.below RPl.stable hB2.out) (hD.out.A.below RPl.stable hB2.out) hqx hqd hfx.out hfd.out hVd hw1H.out).mono ?_
          rintro e w3 ⟨rfl, hb3⟩
          have hB3 := Lib.hid (hB2.out.trans (hb3.mono hB2.out.size))
          obtain ⟨chb3, fhb3, shb3, thb3⟩ := bcell hb3
          have d0 := shb3 w.heap.size (by go_simp)
          have d1 := shb3 (w.heap.size + 1) (by go_simp)
          have d2 := shb3 (w.heap.size + 2) (by go_simp)
          go_wp2_with fail
          refine (IsWithin_at (hS.out.A.below RPl.stable hB3.out) (hC.out.A.below RPl.stable hB3.out) hqx hqc hfx.out hfc.out hVc hw2H.out).mono ?_
          rintro e w4 ⟨rfl, hb4⟩
          have hB4 := Lib.hid (hB3.out.trans (hb4.mono hB3.out.size))
          go_wp2
          go_ret
          exact ⟨ret_int hres.out, hB4.out⟩
/-- an assembly that is a part of another -/
def PlsOwn (w : World) (l : List Pl) (e : Ending) (w' : World) : Prop :=
  ∃ A c, e = .returned (.agg #[.slice A l.length c]) ∧ RdSl 3 RPl w' A l.length l ∧ Below w.heap.size w w'
set_option maxRecDepth 100000 in
set_option maxHeartbeats 4000000 in
theorem sub_any {C F : Option Addr} {k cc nf cf : Nat} {ys : List Pl} {L : List Int} {w : World} (h : RdSl 3 RPl w C k ys) (hF : RdSl 1 RInt w F nf L) (hk : k ≤ 100000) (hnf : nf ≤ 100000) (hL : ∀ v ∈ L, ∃ i : Nat, v = (i : Int) ∧ i < k) :
    Calls Tryz.prog 59 #[.agg #[.slice C k cc], .slice F nf cf] w (PlsOwn w (L.map (plOf ys))) := by
  obtain ⟨i0, hi, hz0, hz1, hz2⟩ := info_parts infoPl
  
  have hC := Lib.hid h
  have hFH := Lib.hid hF
  have hLH := Lib.hid hL
  have hl := hF.len
  clear h hF hL
  go_enter Tryz.func59, Tryz.ntmps59
  go_wp2
  go_loopg [10] nf (fun gk i wr => ∃ (j : Nat) (A2 : Option Addr) (c2 : Nat), j + gk = nf ∧ i = .int .i64 (j : Int) ∧ Hid (wr.ownsRow (w.heap.size + 3) 100 3 (.slice A2 j c2) j (plCells ((L.map (plOf ys)).take j))) ∧ Hid (Below w.heap.size w wr) ∧ w.heap.size + 3 ≤ wr.heap.size ∧ wr.cell? ⟨w.heap.size, 0, none⟩ = some (.slice C k cc) ∧ wr.cell? ⟨w.heap.size + 1, 0, none⟩ = some (.slice none 0 0) ∧ wr.frozen? ⟨w.heap.size + 1, 0, none⟩ = false ∧ wr.cell? ⟨w.heap.size + 2, 0, none⟩ = some (.slice A2 j c2) ∧ wr.frozen? ⟨w.heap.size + 2, 0, none⟩ = false)
  case atStart => exact ⟨0, none, 0, by omega, rfl, Lib.hid (World.ownsRow_nil _ _ _ _), Lib.hid (by exact bel_), by simp, by go_simp, by go_simp, by go_simp, by go_simp, by go_simp⟩
  case round =>
    obtain ⟨j, A2, c2, hj, rfl, hrow, hbw, hsz, x0, x1, f1, x2, f2⟩ := hrel
    have e0 : w.heap.size < wr.heap.size := by omega
    have e1 : w.heap.size + 1 < wr.heap.size := by omega
    have e2 : w.heap.size + 2 < wr.heap.size := by omega
    by_cases hjn : j < nf
    · have hFw := hFH.out.below RInt.stable hbw.out
      obtain ⟨v, hv⟩ := hFw.get hjn
      obtain ⟨bf, of_, hFe, hbf, hcf⟩ := hFw.ptr (by omega)
      have d := hcf j v hv
      unfold RInt at d
      simp only [Nat.mul_one] at d
      subst hFe
      obtain ⟨i, rfl, hik⟩ := hLH.out v (List.mem_of_getElem? hv)
      have hAw := hC.out.below RPl.stable hbw.out
      obtain ⟨e, he⟩ := hAw.get hik
      obtain ⟨b, ob, hCe, hb, hc⟩ := hAw.ptr (by omega)
      obtain ⟨d0, d1, d2⟩ := hc i e he
      subst hCe
      have hjI : (j : Int) < (nf : Int) := by omega
      have hj0 : (0 : Int) ≤ (j : Int) := by omega
      have hiI : (i : Int) < (k : Int) := by omega
      have hi0 : (0 : Int) ≤ (i : Int) := by omega
      have hn := Lib.hid (show (L.map (plOf ys)).take (j + 1) = (L.map (plOf ys)).take j ++ [e] by rw [List.take_add_one, List.getElem?_map, hv]; simp only [Option.map_some, plOf_at he]; rfl)
      clear hc he hAw hcf hv hFw
      go_wp2
      refine wp_region_ord [(0, .q), (1, .q), (2, .q), (3, .q), (4, .q), (5, .q), (6, .q), (7, .g), (8, .b), (9, .q), (10, .b)] (by kernel_rfl) (by kernel_rfl) ?_
      simp only [pick, List.filterMap_cons, List.filterMap_nil, List.getElem?_toArray, List.getElem?_cons_zero, List.getElem?_cons_succ, Option.map_some]
      repeat (first
        | ((with_reducible refine wpD_p (fun K hK => ?_)); go_simp; refine hK _ ?_; clear hK K)
        | ((with_reducible refine wpD_q (fun K hK => ?_)); go_simp; (first | refine hK _ ?_ | (go_bits; refine hK _ ?_) | (go_bits; go_simp; refine hK _ ?_)); clear hK K)
        | ((with_reducible refine wpD_g (fun K hK => ?_)); go_simp; refine hK _ _ ?_; clear hK K)
        | ((with_reducible refine wpD_g (fun K hK => ?_)); go_simp; refine ⟨Grew.of_alloc _, hK _ _ ?_⟩; clear hK K))
      have hb5 : Below wr.heap.size wr (wr.alloc (Obj.cells #[.int .i64 e.x, .int .i64 e.y, .int .i64 e.t] 100)).drew := by exact bel_
      have hb5H := Lib.hid hb5
      have hrow5 := Lib.hid (ownsRow_below hrow.out hb5)
      clear hb5
      refine wpD_append rfl _ _ 35 rfl (w.heap.size + 3) 100 i0 (.agg #[.int .i64 0, .int .i64 0, .int .i64 0]) 3 24 Tryz.underlying35 hi hz0 hz1 hz2 rfl (by decide) (.slice A2 j c2) j (plCells ((L.map (plOf ys)).take j)) (by go_simp) hrow5.out ⟨wr.heap.size, 0, none⟩ 1 1 [.int .i64 e.x, .int .i64 e.y, .int .i64 e.t] (by go_simp) rfl ?hnews (fun x hx => by simp at hx; rcases hx with rfl | rfl | rfl <;> rfl) (by unfold maxLen; omega) (by omega) (by simp; omega) ?_
      case hnews =>
        have := cell_three_new wr (.int .i64 e.x) (.int .i64 e.y) (.int .i64 e.t) 100
        simpa using this
      intro v5 w5 hown hgrow
      obtain ⟨A5, c5, rfl⟩ := ownsRow_form hown
      have hownH := Lib.hid hown
      have hb6 : Below (w.heap.size + 3) wr w5 := (hb5H.out.mono (by omega)).grown hgrow (by (try simp); omega) (fun g e => (hrow5.out.lt g e).1)
      have hb6H := Lib.hid hb6
      have s6 := hb6.size
      have z0 := (hb6.cell (p := ⟨w.heap.size, 0, none⟩) (by simp)).trans x0
      have z1 := (hb6.cell (p := ⟨w.heap.size + 1, 0, none⟩) (by simp)).trans x1
      have g1 := (hb6.frozen (p := ⟨w.heap.size + 1, 0, none⟩) (by simp)).trans f1
      have z2 := (hb6.cell (p := ⟨w.heap.size + 2, 0, none⟩) (by simp)).trans x2
      have g2 := (hb6.frozen (p := ⟨w.heap.size + 2, 0, none⟩) (by simp)).trans f2
      have m2 : w.heap.size + 2 < w5.heap.size := by omega
      clear hown hgrow hb6 x0 x1 f1 x2 f2
      repeat (first | ((with_reducible refine wpD_p (fun K hK => ?_)); go_simp; refine hK _ ?_; clear hK K) | ((with_reducible refine wpD_q (fun K hK => ?_)); go_simp; (first | refine hK _ ?_ | (go_bits; refine hK _ ?_) | (go_bits; go_simp; refine hK _ ?_)); clear hK K))
      with_reducible refine wpD_b (fun K hK => ?_)
      go_simp
      refine hK _ _ ?_
      clear hK K
      with_reducible refine wpD_nil ?_
      go_wp2
      go_roundg (nf - (j + 1))
      case measure => omega
      case rel => exact ⟨j + 1, A5, c5, by omega, by go_num, Lib.hid (by rw [hn.out, plCells_snoc]; exact ownsRow_setCell_below hownH.out (Nat.lt_succ_self _) _), Lib.hid ((hbw.out.trans (hb6H.out.mono (by omega))).setCell (p := ⟨w.heap.size + 2, 0, none⟩) (by show w.heap.size ≤ w.heap.size + 2; omega) _), by (try simp); omega, by go_simp, by go_simp, by go_simp, by go_simp, by go_simp⟩
    · obtain rfl : j = nf := by omega
      have ht := Lib.hid (show (L.map (plOf ys)).take j = L.map (plOf ys) from List.take_of_length_le (by rw [List.length_map, hl]; exact Nat.le_refl _))
      have hln := Lib.hid (show (L.map (plOf ys)).length = j by rw [List.length_map, hl])
      have hrd := Lib.hid (show RdSl 3 RPl (wr.setCell ⟨w.heap.size + 1, 0, none⟩ (.slice A2 j c2)) A2 j (L.map (plOf ys)) by
        have := ownsRow_setCell_below hrow.out (a := ⟨w.heap.size + 1, 0, none⟩) (show w.heap.size + 1 < w.heap.size + 3 by omega) (.slice A2 j c2)
        rw [ht.out] at this
        obtain ⟨A', cap, e, h'⟩ := rdP_of_row (bs := L.map (plOf ys)) (by rw [hln.out]; exact this)
        injection e with e1 e2 e3
        subst e1
        rw [hln.out] at h'
        exact h')
      go_wp2
      refine bodyPost_ret (v := .agg #[.slice A2 j c2]) (by simp only [results, Tryz.results59]; go_simp) rfl ?_
      exact ⟨A2, c2, by rw [hln.out], by rw [hln.out]; exact hrd.out, by have h9 := hbw.out; exact bel_⟩
end Go.Proofs.YtglcpphfmmnmkaaGreat
/- Walk: DamageOf, the program. -/


namespace Go.Proofs.YtglcpphfmmnmkaaGreat
open Go.RowKit Go.Shelf
attribute [local go_sem] BelowBy.cell BelowBy.cell_drew stillUpon givesUpon BelowBy.cell_drew2 BelowBy.cell_drew3

set_option maxRecDepth 100000 in
set_option maxHeartbeats 4000000 in
theorem DamageOf_any (G T A D C : Option Addr) (n cg m ct q ca kd cd k cc : Nat) (gs : List Gl) (ts : List Ti) (xs rs ys : List Pl) (t : Int) (w : World) (h : SA w G n T m A q gs ts xs) (h1 : SA w G n T m D kd gs ts rs) (h2 : SA w G n T m C k gs ts ys) :
    Calls Tryz.prog 23 #[.agg #[.slice G n cg, .slice T m ct, .slice A q ca, .int .i64 t], .agg #[.slice D kd cd], .agg #[.slice C k cc]] w (DmgRes w (dmgR gs ts xs t rs ys)) := by
  obtain ⟨i0, hi, hz0, hz1, hz2⟩ := info_parts infoPtW
  
  have hS := Lib.hid h
  have hD := Lib.hid h1
  have hC := Lib.hid h2
  have hkd := h1.A.len
  have hkl := h2.A.len
  clear h h1 h2
  obtain ⟨r, hrE⟩ : ∃ r, repI gs ts xs t rs ys = r := ⟨_, rfl⟩
  have hrH := Lib.hid hrE
  by_cases hr0 : r = 0
  · subst hr0
    have hg := repI_zero hrE
    have hVx := valid_of (sysOkB_valid (growB_true hg.1).1).1
    have hVd := valid_of (growB_true hg.1).2
    have hVc := valid_of (growB_true hg.2).2
    have hkd5 : kd ≤ 500 := by rw [← hkd]; exact hVd.len
    have hk5 : k ≤ 500 := by rw [← hkl]; exact hVc.len
    clear hrE hg
    have hR := Lib.hid (dmgR_yes hrH.out)
    rw [hkl, hkd] at hR
    go_enter Tryz.func23, Tryz.ntmps23
    go_wp2_with fail
    refine (repairCode_at (hS.out.below (by exact bel_)) (hD.out.below (by exact bel_)) (hC.out.below (by exact bel_)) hrH.out).mono ?_
    rintro e w1 ⟨rfl, hb1⟩
    have hB1 := Lib.hid (show Below w.heap.size w w1 by exact bel_)
    obtain ⟨chb1, fhb1, shb1, thb1⟩ := bcell hb1
    have b0 := shb1 w.heap.size (by go_simp)
    have b1 := shb1 (w.heap.size + 1) (by go_simp)
    have b2 := shb1 (w.heap.size + 2) (by go_simp)
    have b3 := shb1 (w.heap.size + 3) (by go_simp)
    have y0 := (hb1.cell (p := ⟨w.heap.size, 0, none⟩) (by go_simp)).trans (show _ = some (Value.slice G n cg) by go_simp)
    have y1 := (hb1.cell (p := ⟨w.heap.size, 1, none⟩) (by go_simp)).trans (show _ = some (Value.slice T m ct) by go_simp)
    have y2 := (hb1.cell (p := ⟨w.heap.size, 2, none⟩) (by go_simp)).trans (show _ = some (Value.slice A q ca) by go_simp)
    have y3 := (hb1.cell (p := ⟨w.heap.size, 3, none⟩) (by go_simp)).trans (show _ = some (Value.int .i64 t) by go_simp)
    have y4 := (hb1.cell (p := ⟨w.heap.size + 1, 0, none⟩) (by go_simp)).trans (show _ = some (Value.slice D kd cd) by go_simp)
    have y5 := (hb1.cell (p := ⟨w.heap.size + 2, 0, none⟩) (by go_simp)).trans (show _ = some (Value.slice C k cc) by go_simp)
    have hQ1 := Lib.hid (show DgQ w1 (w.heap.size + 3) (.slice none 0 0) (.slice none 0 0) (.slice none 0 0) from ⟨b3, (hb1.cell (p := ⟨w.heap.size + 3, 0, none⟩) (by go_simp)).trans (by go_simp), (hb1.cell (p := ⟨w.heap.size + 3, 1, none⟩) (by go_simp)).trans (by go_simp), (hb1.cell (p := ⟨w.heap.size + 3, 2, none⟩) (by go_simp)).trans (by go_simp), (hb1.frozen (p := ⟨w.heap.size + 3, 0, none⟩) (by go_simp)).trans (by go_simp), (hb1.frozen (p := ⟨w.heap.size + 3, 1, none⟩) (by go_simp)).trans (by go_simp), (hb1.frozen (p := ⟨w.heap.size + 3, 2, none⟩) (by go_simp)).trans (by go_simp)⟩)
    clear chb1 fhb1 shb1 thb1 hb1
    go_wp2_with fail
    refine (errorsOf_any (hD.out.A.below RPl.stable hB1.out) hVd (hC.out.A.below RPl.stable hB1.out) (by omega)).mono ?_
    rintro e w2 ⟨BQ, cq, rfl, hrowQ, hb2⟩
    have hrowQH := Lib.hid hrowQ
    have hb2H := Lib.hid hb2
    have s2 := hb2.size
    obtain ⟨nq, hnq⟩ : ∃ nq, (errL rs ys k).length = nq := ⟨_, rfl⟩
    have hnqH := Lib.hid hnq
    obtain ⟨chb2, fhb2, shb2, thb2⟩ := bcell hb2
    have c0 : w.heap.size < w2.heap.size := shb2 w.heap.size (by go_simp)
    have c1 := shb2 (w.heap.size + 1) (by go_simp)
    have c2' : w.heap.size + 2 < w2.heap.size := shb2 (w.heap.size + 2) (by go_simp)
    have c3 := shb2 (w.heap.size + 3) (by go_simp)
    rw [hnq]
    rw [hnq] at hrowQH
    clear hrowQ hnq
    have hB3 := Lib.hid (show Below w1.heap.size w1 (w2.alloc (Obj.cells #[.slice none 0 0, .slice BQ nq cq, .slice none 0 0] 58)) by exact bel_)
    go_wp2_with fail
    refine (points_any ((hD.out.A.below RPl.stable hB1.out).below RPl.stable hB3.out) (by omega)).mono ?_
    rintro e w4 ⟨P, cp, rfl, hrowP, hb4⟩
    have hlp : (rs.map toPt).length = kd := by rw [List.length_map, hkd]
    rw [hlp] at hrowP
    rw [hlp]
    have s4 := hb4.size
    simp only [World.size_alloc] at s4
    have hB4 := Lib.hid (show Below w1.heap.size w1 w4 from hB3.out.trans (hb4.mono (by simp; omega)))
    have hQ4 := Lib.hid ((DgQ.new w2 (.slice none 0 0) (.slice BQ nq cq) (.slice none 0 0) 58).below hb4 (by simp))
    have hB24 := Lib.hid (show Below w2.heap.size w2 w4 from (bl_al (bl_refl _) _).trans (hb4.mono (by simp)))
    have hPB : ∀ g, (Value.slice P kd cp).ownBlock = some g → w2.heap.size + 1 ≤ g := fun g e => by have := (hrowP.lt g e).1; simpa using this
    have hPBH := Lib.hid hPB
    have hrdP := Lib.hid (rdPts hrowP hlp.symm)
    have y6 := (hB4.out.cell (p := ⟨w.heap.size + 2, 0, none⟩) b2).trans y5
    clear hb4 hrowP hPB chb2 fhb2 shb2 thb2
    go_wp2
    go_loopg [27] kd (fun gk i wr => ∃ (j : Nat) (A2 : Option Addr) (c2 : Nat), j + gk = kd ∧ i = .int .i64 (j : Int) ∧ Hid (DgQ wr w2.heap.size (.slice A2 (lackL ys rs j).length c2) (.slice BQ nq cq) (.slice none 0 0)) ∧ Hid (wr.ownsRow w4.heap.size 86 2 (.slice A2 (lackL ys rs j).length c2) (lackL ys rs j).length (ptCells (lackL ys rs j))) ∧ Hid (Mk w2.heap.size (w2.heap.size + 1) w4 wr))
    case atStart => exact ⟨0, none, 0, by omega, rfl, hQ4, Lib.hid (World.ownsRow_nil _ _ _ _), Lib.hid (Mk.refl _ _ _)⟩
    case round =>
      obtain ⟨j, A2, c2, hj, rfl, hq, hrow, hmk⟩ := hrel
      have hszr := hmk.out.size
      have x5 := (hmk.out.below.cell (p := ⟨w.heap.size + 2, 0, none⟩) c2').trans y6
      have e5 : w.heap.size + 2 < wr.heap.size := by omega
      have hBr := Lib.hid ((hB1.out.trans (hB4.out.mono hB1.out.size)).trans (hmk.out.below.mono (show w.heap.size ≤ w2.heap.size by omega)))
      have e9 := hq.out.lt
      obtain ⟨L, hL⟩ : ∃ L, lackL ys rs j = L := ⟨_, rfl⟩
      have hLl : L.length ≤ 1000 := by rw [← hL]; exact Nat.le_trans (lackL_len ys rs j) (by omega)
      rw [hL] at hrow hq
      have hLH := Lib.hid hL
      clear hL
      obtain ⟨N, hN⟩ : ∃ N, L.length = N := ⟨_, rfl⟩
      rw [hN] at hrow hLl hq
      have hNH := Lib.hid hN
      clear hN
      by_cases hjk : j < kd
      · obtain ⟨pe, hpe⟩ := hrdP.out.get hjk
        obtain ⟨bp, op, hPe, hbp, hcp⟩ := hrdP.out.ptr (by omega)
        obtain ⟨d0, d1⟩ := hcp j pe hpe
        obtain ⟨e, he, rfl⟩ : ∃ e, rs[j]? = some e ∧ toPt e = pe := by
          rw [List.getElem?_map] at hpe
          cases hh : rs[j]? with
          | none => rw [hh] at hpe; cases hpe
          | some e => rw [hh] at hpe; exact ⟨e, rfl, Option.some.inj hpe⟩
        subst hPe
        have hbp1 := hPBH.out bp rfl
        have hbpk := hmk.out.keep bp hbp1 hbp
        have f0 := (World.cell?_of_block (a := ⟨bp, op + j * 2, none⟩) hbpk).trans d0
        have f1 := (World.cell?_of_block (a := ⟨bp, op + j * 2 + 1, none⟩) hbpk).trans d1
        have hbpr : bp < wr.heap.size := by omega
        have hbpr' : bp ≤ wr.heap.size := by omega
        have hjI : (j : Int) < (kd : Int) := by omega
        have hj0 : (0 : Int) ≤ (j : Int) := by omega
        have hAr := Lib.hid (hC.out.A.below RPl.stable hBr.out)
        obtain ⟨a, ha⟩ : ∃ a, atI ys e.x e.y = a := ⟨_, rfl⟩
        have haH := Lib.hid ha
        simp only [toPt] at f0 f1
        clear d0 d1 hcp hpe hbpk
        by_cases ha0 : a < 0
        · have hn := Lib.hid (show lackL ys rs (j + 1) = L ++ [⟨e.x, e.y⟩] by rw [← hLH.out]; exact lackL_yes he (by rw [ha]; exact ha0))
          clear he ha
          go_wp2_with (first
            | (go_at_call 58; refine (at_at (hAr.out.below RPl.stable (by exact bel_)) hVc haH.out).mono ?_; rintro e' w5 ⟨rfl, hb5⟩; have hB5 := Lib.hid (show Below wr.heap.size wr w5 by exact bel_); have s5 := hB5.out.size; have hq5 := Lib.hid (hq.out.below hB5.out hq.out.lt); have q0 := hq5.out.c0; have q1 := hq5.out.c1; have q2 := hq5.out.c2; have q3 := hq5.out.f0; have q9 := hq5.out.lt; have k0 := (hb5.cell (p := ⟨wr.heap.size, 0, none⟩) (by simp)).trans (show _ = some (Value.int .i64 e.x) by go_simp); have k1 := (hb5.cell (p := ⟨wr.heap.size, 1, none⟩) (by simp)).trans (show _ = some (Value.int .i64 e.y) by go_simp); have k2 : wr.heap.size < w5.heap.size := Nat.lt_of_lt_of_le (by simp) hb5.size; have hrow5 := Lib.hid (ownsRow_below hrow.out hB5.out); clear hb5)
            | (at_builtin; go_loud (refine wpList_append_own _ rfl _ _ 48 rfl w4.heap.size 86 i0 (.agg #[.int .i64 0, .int .i64 0]) 2 16 Tryz.underlying48 hi hz0 hz1 hz2 rfl (by decide) _ N _ rfl (hrow5.out.alloc _) ⟨w5.heap.size, 0, none⟩ 1 1 [.int .i64 e.x, .int .i64 e.y] rfl rfl (cell_two_new _ _ _ _) (fun x hx => by simp at hx; rcases hx with rfl | rfl <;> rfl) (by unfold maxLen; omega) (by omega) (by (try simp only [World.size_alloc, World.size_drew]); omega) ?_; intro v' w6 hown' hgrow _; obtain ⟨A5, c5, rfl⟩ := ownsRow_form hown'; have hownH := Lib.hid hown'; have hb6 := Lib.hid (show Below w4.heap.size w5 w6 from below_app (by omega) (fun g e => (hrow5.out.lt g e).1) hgrow); have hq6 := Lib.hid (hq5.out.below hb6.out (by omega)); have m0 := hq6.out.c0; have m3 := hq6.out.f0; have m9 := hq6.out.lt; clear hown' hgrow)))
          go_wp2
          go_roundg (kd - (j + 1))
          case measure => omega
          case rel => exact ⟨j + 1, A5, c5, by omega, by go_num, Lib.hid (by rw [hn.out, List.length_append, hNH.out]; exact hq6.out.set0), Lib.hid (by rw [hn.out, List.length_append, hNH.out, ptCells_snoc]; exact ownsRow_setCell_below hownH.out (a := ⟨w2.heap.size, 0, none⟩) (show w2.heap.size < w4.heap.size by omega) _), Lib.hid ((hmk.out.step ((hB5.out.mono (by omega)).trans hb6.out) (by omega)).set (p := ⟨w2.heap.size, 0, none⟩) (Nat.le_refl _) (Nat.lt_succ_self _) _)⟩
        · have hn := Lib.hid (show lackL ys rs (j + 1) = L by rw [← hLH.out]; exact lackL_no he (by rw [ha]; exact ha0))
          clear he ha
          go_wp2_with (go_at_call 58; refine (at_at (hAr.out.below RPl.stable (by exact bel_)) hVc haH.out).mono ?_; rintro e' w5 ⟨rfl, hb5⟩; have hB5 := Lib.hid (show Below wr.heap.size wr w5 by exact bel_); have s5 := hB5.out.size; clear hb5)
          go_roundg (kd - (j + 1))
          case measure => omega
          case rel => exact ⟨j + 1, A2, c2, by omega, by go_num, Lib.hid (by rw [hn.out, hNH.out]; exact hq.out.below hB5.out hq.out.lt), Lib.hid (by rw [hn.out, hNH.out]; exact ownsRow_below hrow.out hB5.out), Lib.hid (hmk.out.step (hB5.out.mono (by omega)) (by omega))⟩
      · obtain rfl : j = kd := by omega
        have hjE : ¬ (j : Int) < (j : Int) := by omega
        have x0 := (hmk.out.below.cell (p := ⟨w.heap.size, 0, none⟩) c0).trans ((hB4.out.cell (p := ⟨w.heap.size, 0, none⟩) b0).trans y0)
        have x1 := (hmk.out.below.cell (p := ⟨w.heap.size, 1, none⟩) c0).trans ((hB4.out.cell (p := ⟨w.heap.size, 1, none⟩) b0).trans y1)
        have x2 := (hmk.out.below.cell (p := ⟨w.heap.size, 2, none⟩) c0).trans ((hB4.out.cell (p := ⟨w.heap.size, 2, none⟩) b0).trans y2)
        have x3 := (hmk.out.below.cell (p := ⟨w.heap.size, 3, none⟩) c0).trans ((hB4.out.cell (p := ⟨w.heap.size, 3, none⟩) b0).trans y3)
        have e0 : w.heap.size < wr.heap.size := by omega
        go_wp2
        refine wp_region_ord [(0, .q), (1, .q), (2, .q), (3, .g), (4, .g), (5, .g), (6, .q), (7, .b)] (by kernel_rfl) (by kernel_rfl) ?_
        simp only [pick, List.filterMap_cons, List.filterMap_nil, List.getElem?_toArray, List.getElem?_cons_zero, List.getElem?_cons_succ, Option.map_some]
        repeat (first | ((with_reducible refine wpD_p (fun K hK => ?_)); go_simp; refine hK _ ?_; clear hK K) | ((with_reducible refine wpD_q (fun K hK => ?_)); go_simp; (first | refine hK _ ?_ | (go_bits; refine hK _ ?_) | (go_bits; go_simp; refine hK _ ?_)); clear hK K))
        with_reducible refine wpD_g (fun K hK => ?_)
        go_simp
        refine (loose_any (hS.out.below hBr.out.drew) hVx (hC.out.below hBr.out.drew) hVc).mono ?_
        rintro e w6 ⟨v, rfl, hrowL, hb6⟩
        refine ⟨_, rfl, hb6, hK _ _ ?_⟩
        clear hK K
        obtain ⟨F, cf, rfl⟩ := ownsRow_form hrowL
        have hB6 := Lib.hid (show Below wr.heap.size wr w6 by exact bel_)
        have s6 := hB6.out.size
        have hLn := looseN_len gs ts xs ys t k
        have hrdL := Lib.hid (rdI hrowL)
        have hCA6 := Lib.hid (hC.out.A.below RPl.stable (hBr.out.trans (hB6.out.mono (show w.heap.size ≤ wr.heap.size by omega))))
        clear hrowL hb6
        with_reducible refine wpD_g (fun K hK => ?_)
        go_simp
        refine (sub_any hCA6.out hrdL.out (by omega) (by omega) (looseN_lt gs ts xs ys t k)).mono ?_
        rintro e w7 ⟨Z, cz, rfl, hrdZ, hb7⟩
        rw [List.length_map]
        rw [List.length_map] at hrdZ
        refine ⟨_, rfl, hb7, hK _ _ ?_⟩
        clear hK K
        have hB7 := Lib.hid (hB6.out.trans (hb7.mono s6))
        have s7 := hB7.out.size
        clear hb7
        with_reducible refine wpD_g (fun K hK => ?_)
        go_simp
        refine (points_any hrdZ (by omega)).mono ?_
        rintro e w8 ⟨R, cr, rfl, hrowR, hb8⟩
        refine ⟨_, rfl, hb8, hK _ _ ?_⟩
        clear hK K
        have hB8 := Lib.hid (hB7.out.trans (hb8.mono s7))
        have s8 := hb8.size
        have hlos : ((looseN gs ts xs ys t k).map (plOf ys)).map toPt = losP gs ts xs t ys := by unfold losP; rw [List.map_map, hkl]; rfl
        rw [hlos] at hrowR
        rw [hlos]
        have hrowRH := Lib.hid hrowR
        clear hb8 hrowR hrdZ
        have hq8 := Lib.hid (hq.out.below hB8.out hq.out.lt)
        have q0 := hq8.out.c0
        have q1 := hq8.out.c1
        have q2 := hq8.out.c2
        have q3 := hq8.out.f0
        have q4 := hq8.out.f1
        have q5 := hq8.out.f2
        have q6 := hq8.out.lt
        have hr8 := Lib.hid (hQ1.out.below ((hB4.out.trans (hmk.out.below.mono s2)).trans (hB8.out.mono (show w1.heap.size ≤ wr.heap.size by omega))) b3)
        have r0 := hr8.out.c0
        have r1 := hr8.out.c1
        have r2 := hr8.out.c2
        have r3 := hr8.out.f0
        have r4 := hr8.out.f1
        have r5 := hr8.out.f2
        have r6 := hr8.out.lt
        repeat (first | ((with_reducible refine wpD_p (fun K hK => ?_)); go_simp; refine hK _ ?_; clear hK K) | ((with_reducible refine wpD_q (fun K hK => ?_)); go_simp; (first | refine hK _ ?_ | (go_bits; refine hK _ ?_) | (go_bits; go_simp; refine hK _ ?_)); clear hK K))
        with_reducible refine wpD_b (fun K hK => ?_)
        go_simp
        refine hK _ _ ?_
        clear hK K
        with_reducible refine wpD_nil ?_
        go_wp2
        refine bodyPost_ret (v := .tuple #[.agg #[.slice A2 N c2, .slice BQ nq cq, .slice R (losP gs ts xs t ys).length cr], .int .i64 0]) (by simp only [results, Tryz.results23]; go_simp) rfl ?_
        have h9 := hNH.out
        subst h9
        have h8 := hLH.out
        subst h8
        have h7 := hnqH.out
        subst h7
        exact DmgRes.of hR.out rfl rfl rfl (Own3.final (l := ⟨lackL ys rs j, errL rs ys k, losP gs ts xs t ys⟩) (ownsRow_belowB hrowQH.out (fun g e => (hrowQH.out.lt g e).2) (((hB24.out.trans hmk.out.below).trans (hB8.out.mono (by omega))).setCell (p := ⟨w2.heap.size, 2, none⟩) (Nat.le_refl _) _)) (fun g e => Nat.lt_of_lt_of_le (hrowQH.out.lt g e).2 (by omega)) (ownsRow_setCell_below (ownsRow_below hrow.out hB8.out) (a := ⟨w2.heap.size, 2, none⟩) (show w2.heap.size < w4.heap.size by omega) _) (fun g e => Nat.lt_of_lt_of_le (hrow.out.lt g e).2 s7) (ownsRow_setCell_below hrowRH.out (a := ⟨w2.heap.size, 2, none⟩) (show w2.heap.size < w7.heap.size by omega) _) hB1.out.size (by omega) (by omega) (by (try simp); omega) b3) (by have h6 := hBr.out.trans (hB8.out.mono (show w.heap.size ≤ wr.heap.size by omega)); exact bel_)
  · have hr1 : (r != 0) = true := by simpa using hr0
    clear hrE
    go_enter Tryz.func23, Tryz.ntmps23
    go_wp2_with fail
    refine (repairCode_at (hS.out.below (by exact bel_)) (hD.out.below (by exact bel_)) (hC.out.below (by exact bel_)) hrH.out).mono ?_
    rintro e w1 ⟨rfl, hb1⟩
    have hB1 := Lib.hid (show Below w.heap.size w w1 by exact bel_)
    obtain ⟨chb1, fhb1, shb1, thb1⟩ := bcell hb1
    have b3 := shb1 (w.heap.size + 3) (by go_simp)
    have hQ1 : DgQ w1 (w.heap.size + 3) (.slice none 0 0) (.slice none 0 0) (.slice none 0 0) := ⟨b3, (hb1.cell (p := ⟨w.heap.size + 3, 0, none⟩) (by go_simp)).trans (by go_simp), (hb1.cell (p := ⟨w.heap.size + 3, 1, none⟩) (by go_simp)).trans (by go_simp), (hb1.cell (p := ⟨w.heap.size + 3, 2, none⟩) (by go_simp)).trans (by go_simp), (hb1.frozen (p := ⟨w.heap.size + 3, 0, none⟩) (by go_simp)).trans (by go_simp), (hb1.frozen (p := ⟨w.heap.size + 3, 1, none⟩) (by go_simp)).trans (by go_simp), (hb1.frozen (p := ⟨w.heap.size + 3, 2, none⟩) (by go_simp)).trans (by go_simp)⟩
    have q0 := hQ1.c0
    have q1 := hQ1.c1
    have q2 := hQ1.c2
    have q3 := hQ1.f0
    have q4 := hQ1.f1
    have q5 := hQ1.f2
    go_wp2
    refine bodyPost_ret (v := .tuple #[.agg #[.slice none 0 0, .slice none 0 0, .slice none 0 0], .int .i64 r]) (by simp only [results, Tryz.results23]; go_simp) rfl ?_
    exact DmgRes.of (dmgR_no hrH.out hr0) rfl rfl rfl (Own3.empty _ (by (try simp); omega)) (by have h9 := hB1.out; exact bel_)
end Go.Proofs.YtglcpphfmmnmkaaGreat
/- Walks: wrong points; the code of a repair; the reference. -/


namespace Go.Proofs.YtglcpphfmmnmkaaGreat
open Go.RowKit Go.Shelf
attribute [local go_sem] BelowBy.cell BelowBy.cell_drew stillUpon givesUpon BelowBy.cell_drew2 BelowBy.cell_drew3

set_option maxRecDepth 100000 in
set_option maxHeartbeats 4000000 in
theorem l28Asked_at {o p pd od pa oa : Nat} {gs : List Gl} {ts : List Ti} {xs rs ys : List Pl} {t : Int} {w : World} (h : SysAt w p o gs ts xs t) (hd : AsmAt w pd od rs) (ha : AsmAt w pa oa ys) (hqd : rs.length ≤ 1073741824) (hq : ys.length ≤ 1073741824) {r : Int} (hr : repI gs ts xs t rs ys = r) :
    Calls Tryz.prog 51 #[.pointer (some ⟨p, o, none⟩), .pointer (some ⟨pd, od, none⟩), .pointer (some ⟨pa, oa, none⟩)] w fun e w' => e = .returned (.int .i64 r) ∧ Below w.heap.size w w' := by
  
  have hS := Lib.hid h
  have hD := Lib.hid hd
  have hA := Lib.hid ha
  have hrH := Lib.hid hr
  have htm := h.sat.tm
  clear h ha hd hr
  cases hs : sysOkB gs ts xs t
  · have hsH := Lib.hid hs
    have hres := Lib.hid (show 1 = r by rw [← hrH.out]; unfold repI growB; rw [hs]; rfl)
    clear hs
    go_enter Tryz.func51, Tryz.ntmps51
    go_wp2_with fail
    refine (l08Ok_any _ gs ts xs t _ hS.out).mono ?_
    rw [hsH.out]
    rintro e w1 ⟨rfl, hb1⟩
    go_wp2
    go_ret
    exact ⟨ret_int hres.out, by exact bel_⟩
  · have hsH := Lib.hid hs
    obtain ⟨r1, hr1⟩ : ∃ r1, growB gs ts xs t rs = r1 := ⟨_, rfl⟩
    obtain ⟨r2, hr2⟩ : ∃ r2, growB gs ts xs t ys = r2 := ⟨_, rfl⟩
    have hfd := Lib.hid (show (hasFormB rs && allB rs.length (okTile ts.length rs)) = r1 by rw [formB_of (validSet_of (sysOkB_valid hs).1), ← hr1]; simp [growB, hs])
    have hfo := Lib.hid (show (hasFormB ys && allB ys.length (okTile ts.length ys)) = r2 by rw [formB_of (validSet_of (sysOkB_valid hs).1), ← hr2]; simp [growB, hs])
    cases r1
    · have hres := Lib.hid (show 1 = r by rw [← hrH.out]; unfold repI; rw [hr1]; rfl)
      clear hs hr1 hr2
      go_enter Tryz.func51, Tryz.ntmps51
      go_wp2_with fail
      refine (l08Ok_any _ gs ts xs t _ hS.out).mono ?_
      rw [hsH.out]
      rintro e w1 ⟨rfl, hb1⟩
      go_wp2_with fail
      refine (l03Ok_any _ _ gs ts rs _ (hS.out.sat.s.below (by exact bel_)) (hD.out.below (by exact bel_)) hqd (by omega)).mono ?_
      rw [hfd.out]
      rintro e w2 ⟨rfl, hb2⟩
      go_wp2
      go_ret
      exact ⟨ret_int hres.out, by exact bel_⟩
    · cases r2
      · have hres := Lib.hid (show 1 = r by rw [← hrH.out]; unfold repI; rw [hr1, hr2]; rfl)
        clear hs hr1 hr2
        go_enter Tryz.func51, Tryz.ntmps51
        go_wp2_with fail
        refine (l08Ok_any _ gs ts xs t _ hS.out).mono ?_
        rw [hsH.out]
        rintro e w1 ⟨rfl, hb1⟩
        go_wp2_with fail
        refine (l03Ok_any _ _ gs ts rs _ (hS.out.sat.s.below (by exact bel_)) (hD.out.below (by exact bel_)) hqd (by omega)).mono ?_
        rw [hfd.out]
        rintro e w2 ⟨rfl, hb2⟩
        have hB2 := Lib.hid (show Below w.heap.size w w2 by exact bel_)
        go_wp2_with fail
        refine (l03Ok_any _ _ gs ts ys _ (hS.out.sat.s.below hB2.out) (hA.out.below hB2.out) hq (by omega)).mono ?_
        rw [hfo.out]
        rintro e w3 ⟨rfl, hb3⟩
        go_wp2
        go_ret
        exact ⟨ret_int hres.out, hB2.out.trans (hb3.mono hB2.out.size)⟩
      · have hVd := valid_of (growB_true hr1).2
        have hVc := valid_of (growB_true hr2).2
        cases hw1 : withinB xs rs
        · have hw1H := Lib.hid hw1
          have hres := Lib.hid (show (2 : Int) = r by rw [← hrH.out]; unfold repI; rw [hr1, hr2, hw1]; rfl)
          clear hs hr1 hr2 hw1
          go_enter Tryz.func51, Tryz.ntmps51
          go_wp2_with fail
          refine (l08Ok_any _ gs ts xs t _ hS.out).mono ?_
          rw [hsH.out]
          rintro e w1 ⟨rfl, hb1⟩
          go_wp2_with fail
          refine (l03Ok_any _ _ gs ts rs _ (hS.out.sat.s.below (by exact bel_)) (hD.out.below (by exact bel_)) hqd (by omega)).mono ?_
          rw [hfd.out]
          rintro e w2 ⟨rfl, hb2⟩
          have hB2 := Lib.hid (show Below w.heap.size w w2 by exact bel_)
          go_wp2_with fail
          refine (l03Ok_any _ _ gs ts ys _ (hS.out.sat.s.below hB2.out) (hA.out.below hB2.out) hq (by omega)).mono ?_
          rw [hfo.out]
          rintro e w3 ⟨rfl, hb3⟩
          have hB3 := Lib.hid (hB2.out.trans (hb3.mono hB2.out.size))
          go_wp2_with fail
          refine (l03Within_at (hS.out.sat.a.below hB3.out) (hD.out.below hB3.out) hVd hS.out.sat.q hw1H.out).mono ?_
          rintro e w4 ⟨rfl, hb4⟩
          go_wp2
          go_ret
          exact ⟨ret_int hres.out, hB3.out.trans (hb4.mono hB3.out.size)⟩
        · have hw1H := Lib.hid hw1
          cases hw2 : withinB xs ys
          all_goals
            have hw2H := Lib.hid hw2
            first
              | have hres := Lib.hid (show (2 : Int) = r by rw [← hrH.out]; unfold repI; rw [hr1, hr2, hw1, hw2]; rfl)
              | have hres := Lib.hid (show (0 : Int) = r by rw [← hrH.out]; unfold repI; rw [hr1, hr2, hw1, hw2]; rfl)
            clear hs hr1 hr2 hw1 hw2
            go_enter Tryz.func51, Tryz.ntmps51
            go_wp2_with fail
            refine (l08Ok_any _ gs ts xs t _ hS.out).mono ?_
            rw [hsH.out]
            rintro e w1 ⟨rfl, hb1⟩
            go_wp2_with fail
            refine (l03Ok_any _ _ gs ts rs _ (hS.out.sat.s.below (by exact bel_)) (hD.out.below (by exact bel_)) hqd (by omega)).mono ?_
            rw [hfd.out]
            rintro e w2 ⟨rfl, hb2⟩
            have hB2 := Lib.hid (show Below w.heap.size w w2 by exact bel_)
            go_wp2_with fail
            refine (l03Ok_any _ _ gs ts ys _ (hS.out.sat.s.below hB2.out) (hA.out.below hB2.out) hq (by omega)).mono ?_
            rw [hfo.out]
            rintro e w3 ⟨rfl, hb3⟩
            have hB3 := Lib.hid (hB2.out.trans (hb3.mono hB2.out.size))
            go_wp2_with fail
            refine (l03Within_at (hS.out.sat.a.below hB3.out) (hD.out.below hB3.out) hVd hS.out.sat.q hw1H.out).mono ?_
            rintro e w4 ⟨rfl, hb4⟩
            have hB4 := Lib.hid (hB3.out.trans (hb4.mono hB3.out.size))
            go_wp2_with fail
            refine (l03Within_at (hS.out.sat.a.below hB4.out) (hA.out.below hB4.out) hVc hS.out.sat.q hw2H.out).mono ?_
            rintro e w5 ⟨rfl, hb5⟩
            go_wp2
            go_ret
            exact ⟨ret_int hres.out, hB4.out.trans (hb5.mono hB4.out.size)⟩
set_option maxRecDepth 100000 in
set_option maxHeartbeats 4000000 in
theorem l25Errors_any {p op pa oa k : Nat} {gs : List Gl} {ts : List Ti} {rs ys : List Pl} {w : World} (hR : AsmAt w p op rs) (hA : AsmAt w pa oa ys) (hV : Valid gs ts rs) (hk : ys.length = k) (hk5 : k ≤ 100000) :
    Calls Tryz.prog 52 #[.pointer (some ⟨p, op, none⟩), .pointer (some ⟨pa, oa, none⟩)] w (PtsOwn w (errL rs ys k)) := by
  obtain ⟨i0, hi, hz0, hz1, hz2⟩ := info_parts infoPtW
  
  have hRH := Lib.hid hR
  have hAH := Lib.hid hA
  have hlA := hA.lt
  clear hR hA
  go_enter Tryz.func52, Tryz.ntmps52
  go_wp2
  go_loopg [6, 5] k (fun gk i v wr => ∃ (j : Nat) (A2 : Option Addr) (c2 : Nat), j + gk = k ∧ i = .int .i64 (j : Int) ∧ v = .slice A2 (errL rs ys j).length c2 ∧ Hid (wr.ownsRow w.heap.size 86 2 (.slice A2 (errL rs ys j).length c2) (errL rs ys j).length (ptCells (errL rs ys j))) ∧ Hid (Below w.heap.size w wr))
  case atStart => exact ⟨0, some ⟨w.heap.size, 0, none⟩, 0, by omega, rfl, rfl, Lib.hid (by have := World.ownsRow_lit (base := w.heap.size) (e := 86) (size := 2) w #[] 0 (Nat.le_refl _) (by decide) rfl; simpa [errL, ptCells] using this), Lib.hid (bl_al (bl_refl _) _)⟩
  case round =>
    obtain ⟨j, A2, c2, hj, rfl, rfl, hrow, hbw⟩ := hrel
    have hsz := hbw.out.size
    obtain ⟨hlt, C, kk, cc, y1, hC⟩ := hAH.out.below hbw.out
    obtain rfl : kk = k := by rw [← hC.len, hk]
    have hRw := Lib.hid (hRH.out.below hbw.out)
    obtain ⟨L, hL⟩ : ∃ L, errL rs ys j = L := ⟨_, rfl⟩
    have hLl : L.length ≤ 100000 := by rw [← hL]; exact Nat.le_trans (errL_len rs ys j) (by omega)
    rw [hL] at hrow
    rw [hL]
    have hLH := Lib.hid hL
    clear hL
    obtain ⟨N, hN⟩ : ∃ N, L.length = N := ⟨_, rfl⟩
    rw [hN] at hrow hLl
    rw [hN]
    have hNH := Lib.hid hN
    clear hN
    by_cases hjk : j < kk
    · obtain ⟨e, he⟩ := hC.get hjk
      obtain ⟨b, ob, hCe, hb, hc⟩ := hC.ptr (by omega)
      obtain ⟨d0, d1, d2⟩ := hc j e he
      subst hCe
      have hjI : (j : Int) < (kk : Int) := by omega
      have hj0 : (0 : Int) ≤ (j : Int) := by omega
      obtain ⟨a, ha⟩ : ∃ a, atI rs e.x e.y = a := ⟨_, rfl⟩
      have haH := Lib.hid ha
      by_cases hae : a = e.t
      · have hn := Lib.hid (show errL rs ys (j + 1) = L by rw [← hLH.out]; exact errL_no he (ha.trans hae))
        have hd : (a == e.t) = true := by simpa using hae
        clear hc he ha hae hC
        
        go_wp2
        refine wp_region_ord [(0, .q), (1, .q), (2, .q), (3, .q), (4, .q), (5, .q), (6, .q), (7, .q), (8, .q), (10, .q), (11, .q), (12, .q), (13, .q), (14, .q), (15, .q), (16, .q), (17, .q), (9, .g), (18, .q)] (by kernel_rfl) (by kernel_rfl) ?_
        simp only [pick, List.filterMap_cons, List.filterMap_nil, List.getElem?_toArray, List.getElem?_cons_zero, List.getElem?_cons_succ, Option.map_some]
        repeat (first
          | ((with_reducible refine wpD_p (fun K hK => ?_)); go_simp; refine hK _ ?_; clear hK K)
          | ((with_reducible refine wpD_q (fun K hK => ?_)); go_simp; (first | refine hK _ ?_ | (go_bits; refine hK _ ?_) | (go_bits; go_simp; refine hK _ ?_)); clear hK K)
          | ((with_reducible refine wpD_g (fun K hK => ?_)); go_simp; refine hK _ _ ?_; clear hK K)
          | ((with_reducible refine wpD_g (fun K hK => ?_)); go_simp; refine ⟨Grew.of_alloc _, hK _ _ ?_⟩; clear hK K)
          | ((with_reducible refine wpD_g (fun K hK => ?_)); go_simp; go_at_call 102; refine (l03At_any _ gs ts rs _ _ _ _ (hRw.out.below (by exact bel_)) hV haH.out).mono ?_; rintro e w1 ⟨rfl, hb1⟩; refine ⟨_, rfl, hb1, hK _ _ ?_⟩; clear hK K; obtain ⟨chb1, fhb1, shb1, thb1⟩ := bcell hb1; (try have bhb10 := shb1 (b) (by go_simp)); (try have bhb11 := shb1 (pa) (by go_simp))))
        with_reducible refine wpD_nil ?_
        have hB1 := Lib.hid (show Below wr.heap.size wr w1 by exact bel_)
        have s1 := hB1.out.size
        go_wp2
        go_roundg (kk - (j + 1))
        case measure => omega
        case rel => exact ⟨j + 1, A2, c2, by omega, by go_num, by rw [hn.out, hNH.out], Lib.hid (by rw [hn.out, hNH.out]; exact ownsRow_below hrow.out (by have h9 := hB1.out; exact bel_)), Lib.hid (hbw.out.trans (Below.mono (by have h9 := hB1.out; exact bel_) hsz))⟩
      · have hn := Lib.hid (show errL rs ys (j + 1) = L ++ [⟨e.x, e.y⟩] by rw [← hLH.out]; exact errL_yes he (fun h => hae (ha.symm.trans h)))
        have hd : (a == e.t) = false := by simpa using hae
        clear hc he ha hae hC
        
        go_wp2
        refine wp_region_ord [(0, .q), (1, .q), (2, .q), (3, .q), (4, .q), (5, .q), (6, .q), (7, .q), (8, .q), (10, .q), (11, .q), (12, .q), (13, .q), (14, .q), (15, .q), (16, .q), (17, .q), (9, .g), (18, .q)] (by kernel_rfl) (by kernel_rfl) ?_
        simp only [pick, List.filterMap_cons, List.filterMap_nil, List.getElem?_toArray, List.getElem?_cons_zero, List.getElem?_cons_succ, Option.map_some]
        repeat (first
          | ((with_reducible refine wpD_p (fun K hK => ?_)); go_simp; refine hK _ ?_; clear hK K)
          | ((with_reducible refine wpD_q (fun K hK => ?_)); go_simp; (first | refine hK _ ?_ | (go_bits; refine hK _ ?_) | (go_bits; go_simp; refine hK _ ?_)); clear hK K)
          | ((with_reducible refine wpD_g (fun K hK => ?_)); go_simp; refine hK _ _ ?_; clear hK K)
          | ((with_reducible refine wpD_g (fun K hK => ?_)); go_simp; refine ⟨Grew.of_alloc _, hK _ _ ?_⟩; clear hK K)
          | ((with_reducible refine wpD_g (fun K hK => ?_)); go_simp; go_at_call 102; refine (l03At_any _ gs ts rs _ _ _ _ (hRw.out.below (by exact bel_)) hV haH.out).mono ?_; rintro e w1 ⟨rfl, hb1⟩; refine ⟨_, rfl, hb1, hK _ _ ?_⟩; clear hK K; obtain ⟨chb1, fhb1, shb1, thb1⟩ := bcell hb1; (try have bhb10 := shb1 (b) (by go_simp)); (try have bhb11 := shb1 (pa) (by go_simp))))
        with_reducible refine wpD_nil ?_
        have hB1 := Lib.hid (show Below wr.heap.size wr w1 by exact bel_)
        have s1 := hB1.out.size
        have g9 := (hB1.out.cell (p := ⟨pa, oa, none⟩) hlt).trans y1
        have g0 := (hB1.out.cell (p := ⟨b, _, none⟩) hb).trans d0
        have g1 := (hB1.out.cell (p := ⟨b, _, none⟩) hb).trans d1
        have g8 : b < w1.heap.size := by omega
        have g7 : pa < w1.heap.size := by omega
        go_wp2_with (at_builtin; go_loud (refine wpList_append_own _ rfl _ _ 48 rfl w.heap.size 86 i0 (.agg #[.int .i64 0, .int .i64 0]) 2 16 Tryz.underlying48 hi hz0 hz1 hz2 rfl (by decide) _ N _ rfl ((ownsRow_below hrow.out (by have h9 := hB1.out; exact bel_)).alloc _) ⟨w1.heap.size, 0, none⟩ 1 1 [.int .i64 e.x, .int .i64 e.y] rfl rfl (cell_two_new _ _ _ _) (fun x hx => by simp at hx; rcases hx with rfl | rfl <;> rfl) (by unfold maxLen; omega) (by omega) (by (try simp only [World.size_alloc, World.size_drew]); omega) ?_; intro v' w4 hown' hgrow _; obtain ⟨A5, c5, rfl⟩ := ownsRow_form hown'; have hownH := Lib.hid hown'; have hb4 := Lib.hid (below_app (B0 := w.heap.size) (by (try simp only [World.size_drew]); omega) (fun g e => (hrow.out.lt g e).1) hgrow); clear hown' hgrow))
        go_wp2
        go_roundg (kk - (j + 1))
        case measure => omega
        case rel => exact ⟨j + 1, A5, c5, by omega, by go_num, by rw [hn.out, List.length_append, hNH.out]; rfl, Lib.hid (by rw [hn.out, List.length_append, hNH.out, ptCells_snoc]; exact hownH.out), Lib.hid (hbw.out.trans (Below.trans (Below.mono (by have h9 := hB1.out; exact bel_) hsz) hb4.out))⟩
    · obtain rfl : j = kk := by omega
      have hjE : ¬ (j : Int) < (j : Int) := by omega
      go_wp2
      go_ret
      exact ⟨A2, c2, by rw [hLH.out, hNH.out]; first | done | rfl, by rw [hLH.out, hNH.out]; exact hrow.out, hbw.out⟩
end Go.Proofs.YtglcpphfmmnmkaaGreat
/- Walk: DamageOf, the reference. -/


namespace Go.Proofs.YtglcpphfmmnmkaaGreat
open Go.RowKit Go.Shelf
attribute [local go_sem] BelowBy.cell BelowBy.cell_drew stillUpon givesUpon BelowBy.cell_drew2 BelowBy.cell_drew3

theorem atI_neg {gs : List Gl} {ts : List Ti} {ys : List Pl} (hV : Valid gs ts ys) {x y r : Int} (h : placeI ys x y = r) : (r < 0 ↔ atI ys x y < 0) := by
  subst h
  rcases atI_cases hV x y with ⟨h1, h2⟩ | ⟨k, t, e, h1, he, ht, htl, hat⟩
  · rw [h1, h2]
  · rw [h1, hat]; omega
set_option maxRecDepth 100000 in
set_option maxHeartbeats 4000000 in
theorem sDamageOf_any (G T A D C : Option Addr) (n cg m ct q ca kd cd k cc : Nat) (gs : List Gl) (ts : List Ti) (xs rs ys : List Pl) (t : Int) (w : World) (h : SA w G n T m A q gs ts xs) (h1 : SA w G n T m D kd gs ts rs) (h2 : SA w G n T m C k gs ts ys) :
    Calls Tryz.prog 22 #[.agg #[.slice G n cg, .slice T m ct, .slice A q ca, .int .i64 t], .agg #[.slice D kd cd], .agg #[.slice C k cc]] w (DmgRes w (dmgR gs ts xs t rs ys)) := by
  obtain ⟨i0, hi, hz0, hz1, hz2⟩ := info_parts infoPtW
  
  have hS := Lib.hid (show SysAt ((((w.alloc (Obj.cells #[.slice G n cg, .slice T m ct, .slice A q ca, .int .i64 t] 45)).alloc (Obj.cells #[.slice D kd cd] 37)).alloc (Obj.cells #[.slice C k cc] 37)).alloc (Obj.cells #[.slice none 0 0, .slice none 0 0, .slice none 0 0] 58)) w.heap.size 0 gs ts xs t from (h.sysbox cg ct ca t).below (bl_al (bl_al (bl_al (bl_refl _) _) _) _))
  have hD := Lib.hid (show AsmAt ((((w.alloc (Obj.cells #[.slice G n cg, .slice T m ct, .slice A q ca, .int .i64 t] 45)).alloc (Obj.cells #[.slice D kd cd] 37)).alloc (Obj.cells #[.slice C k cc] 37)).alloc (Obj.cells #[.slice none 0 0, .slice none 0 0, .slice none 0 0] 58)) (w.heap.size + 1) 0 rs from ⟨by simp, D, kd, cd, by go_simp, h1.A.below RPl.stable (by exact bel_)⟩)
  have hC := Lib.hid (show AsmAt ((((w.alloc (Obj.cells #[.slice G n cg, .slice T m ct, .slice A q ca, .int .i64 t] 45)).alloc (Obj.cells #[.slice D kd cd] 37)).alloc (Obj.cells #[.slice C k cc] 37)).alloc (Obj.cells #[.slice none 0 0, .slice none 0 0, .slice none 0 0] 58)) (w.heap.size + 2) 0 ys from ⟨by simp, C, k, cc, by go_simp, h2.A.below RPl.stable (by exact bel_)⟩)
  have hkd := h1.A.len
  have hkl := h2.A.len
  have hqd := h1.q
  have hqc := h2.q
  have hDA := Lib.hid h1.A
  have hCA := Lib.hid h2.A
  clear h h1 h2
  obtain ⟨r, hrE⟩ : ∃ r, repI gs ts xs t rs ys = r := ⟨_, rfl⟩
  have hrH := Lib.hid hrE
  by_cases hr0 : r = 0
  · subst hr0
    have hg := repI_zero hrE
    have hVx := valid_of (sysOkB_valid (growB_true hg.1).1).1
    have hVd := valid_of (growB_true hg.1).2
    have hVc := valid_of (growB_true hg.2).2
    have hkd5 : kd ≤ 500 := by rw [← hkd]; exact hVd.len
    have hk5 : k ≤ 500 := by rw [← hkl]; exact hVc.len
    clear hrE hg
    have hR := Lib.hid (dmgR_yes hrH.out)
    rw [hkl, hkd] at hR
    go_enter Tryz.func22, Tryz.ntmps22
    go_wp2_with fail
    refine (l28Asked_at hS.out hD.out hC.out (by omega) (by omega) hrH.out).mono ?_
    rintro e w1 ⟨rfl, hb1⟩
    have hB1 := Lib.hid (show Below w.heap.size w w1 by exact bel_)
    have hS1 := Lib.hid (hS.out.below hb1)
    have hD1 := Lib.hid (hD.out.below hb1)
    have hC1 := Lib.hid (hC.out.below hb1)
    obtain ⟨chb1, fhb1, shb1, thb1⟩ := bcell hb1
    have b0 := shb1 w.heap.size (by go_simp)
    have b1 := shb1 (w.heap.size + 1) (by go_simp)
    have b2 := shb1 (w.heap.size + 2) (by go_simp)
    have b3 := shb1 (w.heap.size + 3) (by go_simp)
    have y4 := (hb1.cell (p := ⟨w.heap.size + 1, 0, none⟩) (by go_simp)).trans (show _ = some (Value.slice D kd cd) by go_simp)
    have y5 := (hb1.cell (p := ⟨w.heap.size + 2, 0, none⟩) (by go_simp)).trans (show _ = some (Value.slice C k cc) by go_simp)
    have hQ1 := Lib.hid (show DgQ w1 (w.heap.size + 3) (.slice none 0 0) (.slice none 0 0) (.slice none 0 0) from ⟨b3, (hb1.cell (p := ⟨w.heap.size + 3, 0, none⟩) (by go_simp)).trans (by go_simp), (hb1.cell (p := ⟨w.heap.size + 3, 1, none⟩) (by go_simp)).trans (by go_simp), (hb1.cell (p := ⟨w.heap.size + 3, 2, none⟩) (by go_simp)).trans (by go_simp), (hb1.frozen (p := ⟨w.heap.size + 3, 0, none⟩) (by go_simp)).trans (by go_simp), (hb1.frozen (p := ⟨w.heap.size + 3, 1, none⟩) (by go_simp)).trans (by go_simp), (hb1.frozen (p := ⟨w.heap.size + 3, 2, none⟩) (by go_simp)).trans (by go_simp)⟩)
    clear chb1 fhb1 shb1 thb1 hb1
    go_wp2_with fail
    refine (l25Errors_any hD1.out hC1.out hVd hkl (by omega)).mono ?_
    rintro e w2 ⟨BQ, cq, rfl, hrowQ, hb2⟩
    have hrowQH := Lib.hid hrowQ
    have hb2H := Lib.hid hb2
    have s2 := hb2.size
    obtain ⟨nq, hnq⟩ : ∃ nq, (errL rs ys k).length = nq := ⟨_, rfl⟩
    have hnqH := Lib.hid hnq
    rw [hnq]
    rw [hnq] at hrowQH
    clear hrowQ hnq hb2
    obtain ⟨w3, hw3⟩ : ∃ w3, w3 = w2.alloc (Obj.cells #[.slice none 0 0, .slice BQ nq cq, .slice none 0 0] 58) := ⟨_, rfl⟩
    have s3 : w3.heap.size = w2.heap.size + 1 := by rw [hw3]; simp
    have hB23 := Lib.hid (show Below w2.heap.size w2 w3 by rw [hw3]; exact bl_al (bl_refl _) _)
    have hQ3 := Lib.hid (show DgQ w3 w2.heap.size (.slice none 0 0) (.slice BQ nq cq) (.slice none 0 0) by rw [hw3]; exact DgQ.new w2 _ _ _ _)
    have hB3 := Lib.hid (show Below w1.heap.size w1 w3 from hb2H.out.trans (hB23.out.mono s2))
    have c1 : w.heap.size + 1 < w2.heap.size := by omega
    have c2' : w.heap.size + 2 < w2.heap.size := by omega
    have z4 := (hB3.out.cell (p := ⟨w.heap.size + 1, 0, none⟩) b1).trans y4
    have z5 := (hB3.out.cell (p := ⟨w.heap.size + 2, 0, none⟩) b2).trans y5
    go_wp2_with fail
    try rw [← hw3]
    go_loopg [10] kd (fun gk i wr => ∃ (j : Nat) (A2 : Option Addr) (c2 : Nat), j + gk = kd ∧ i = .int .i64 (j : Int) ∧ Hid (DgQ wr w2.heap.size (.slice A2 (lackL ys rs j).length c2) (.slice BQ nq cq) (.slice none 0 0)) ∧ Hid (wr.ownsRow w3.heap.size 86 2 (.slice A2 (lackL ys rs j).length c2) (lackL ys rs j).length (ptCells (lackL ys rs j))) ∧ Hid (Mk w2.heap.size w3.heap.size w3 wr))
    case atStart => exact ⟨0, none, 0, by omega, rfl, hQ3, Lib.hid (World.ownsRow_nil _ _ _ _), Lib.hid (Mk.refl _ _ _)⟩
    case round =>
      obtain ⟨j, A2, c2, hj, rfl, hq, hrow, hmk⟩ := hrel
      have hszr := hmk.out.size
      have x4 := (hmk.out.below.cell (p := ⟨w.heap.size + 1, 0, none⟩) c1).trans z4
      have x5 := (hmk.out.below.cell (p := ⟨w.heap.size + 2, 0, none⟩) c2').trans z5
      have e4 : w.heap.size + 1 < wr.heap.size := by omega
      have hBr1 := Lib.hid ((hB3.out).trans (hmk.out.below.mono s2))
      have hBr := Lib.hid (hB1.out.trans (hBr1.out.mono hB1.out.size))
      have e9 := hq.out.lt
      obtain ⟨L, hL⟩ : ∃ L, lackL ys rs j = L := ⟨_, rfl⟩
      have hLl : L.length ≤ 1000 := by rw [← hL]; exact Nat.le_trans (lackL_len ys rs j) (by omega)
      rw [hL] at hrow hq
      have hLH := Lib.hid hL
      clear hL
      obtain ⟨N, hN⟩ : ∃ N, L.length = N := ⟨_, rfl⟩
      rw [hN] at hrow hLl hq
      have hNH := Lib.hid hN
      clear hN
      by_cases hjk : j < kd
      · have hDr := hDA.out.below RPl.stable hBr.out
        obtain ⟨e, he⟩ := hDr.get hjk
        obtain ⟨b, ob, hDe, hb, hc⟩ := hDr.ptr (by omega)
        obtain ⟨d0, d1, d2⟩ := hc j e he
        subst hDe
        have hb' : b ≤ wr.heap.size := by omega
        have hjI : (j : Int) < (kd : Int) := by omega
        have hj0 : (0 : Int) ≤ (j : Int) := by omega
        have hCr := Lib.hid (hC1.out.below hBr1.out)
        obtain ⟨a, ha⟩ : ∃ a, placeI ys e.x e.y = a := ⟨_, rfl⟩
        have haH := Lib.hid ha
        have hai := atI_neg hVc ha
        by_cases ha0 : a < 0
        · have hn := Lib.hid (show lackL ys rs (j + 1) = L ++ [⟨e.x, e.y⟩] by rw [← hLH.out]; exact lackL_yes he (hai.1 ha0))
          clear he ha hc hDr hai
          go_wp2_with fail
          refine (l03Index_at hCr.out hVc haH.out).mono ?_
          rintro e' w5 ⟨rfl, hb5⟩
          have hB5 := Lib.hid hb5
          have s5 := hb5.size
          have hq5 := Lib.hid (hq.out.below hb5 hq.out.lt)
          have q0 := hq5.out.c0
          have q3 := hq5.out.f0
          have q9 := hq5.out.lt
          have hrow5 := Lib.hid (ownsRow_below hrow.out hb5)
          have g4 := (hb5.cell (p := ⟨w.heap.size + 1, 0, none⟩) e4).trans x4
          have g0 := (hb5.cell (p := ⟨b, _, none⟩) hb).trans d0
          have g1 := (hb5.cell (p := ⟨b, _, none⟩) hb).trans d1
          have g9 : b < w5.heap.size := Nat.lt_of_lt_of_le hb s5
          have g8 : w.heap.size + 1 < w5.heap.size := Nat.lt_of_lt_of_le e4 s5
          clear hb5
          go_wp2
          refine wp_region_ord [(0, .q), (1, .q), (2, .q), (3, .q), (4, .q), (5, .q), (6, .q), (7, .q), (8, .g), (9, .b), (10, .q), (11, .b)] (by kernel_rfl) (by kernel_rfl) ?_
          simp only [pick, List.filterMap_cons, List.filterMap_nil, List.getElem?_toArray, List.getElem?_cons_zero, List.getElem?_cons_succ, Option.map_some]
          repeat (first
            | ((with_reducible refine wpD_p (fun K hK => ?_)); go_simp; refine hK _ ?_; clear hK K)
            | ((with_reducible refine wpD_q (fun K hK => ?_)); go_simp; (first | refine hK _ ?_ | (go_bits; refine hK _ ?_) | (go_bits; go_simp; refine hK _ ?_)); clear hK K)
            | ((with_reducible refine wpD_g (fun K hK => ?_)); go_simp; refine hK _ _ ?_; clear hK K)
            | ((with_reducible refine wpD_g (fun K hK => ?_)); go_simp; refine ⟨Grew.of_alloc _, hK _ _ ?_⟩; clear hK K))
          have hb6 : Below w5.heap.size w5 (w5.alloc (Obj.cells #[.int .i64 e.x, .int .i64 e.y] 86)).drew := by exact bel_
          have hb6H := Lib.hid hb6
          have hrow6 := Lib.hid (ownsRow_below hrow5.out hb6)
          clear hb6
          refine wpD_append rfl _ _ 48 rfl w3.heap.size 86 i0 (.agg #[.int .i64 0, .int .i64 0]) 2 16 Tryz.underlying48 hi hz0 hz1 hz2 rfl (by decide) (.slice A2 N c2) N (ptCells L) (by go_simp) hrow6.out ⟨w5.heap.size, 0, none⟩ 1 1 [.int .i64 e.x, .int .i64 e.y] (by go_simp) rfl ?hnews (fun x hx => by simp at hx; rcases hx with rfl | rfl <;> rfl) (by unfold maxLen; omega) (by omega) (by (try simp only [World.size_alloc, World.size_drew]); omega) ?_
          case hnews =>
            have := cell_two_new w5 (.int .i64 e.x) (.int .i64 e.y) 86
            simpa using this
          intro v6 w6 hown hgrow
          obtain ⟨A5, c5, rfl⟩ := ownsRow_form hown
          have hownH := Lib.hid hown
          have hb7 := Lib.hid (show Below w3.heap.size w5 w6 from (hb6H.out.mono (by omega)).grown hgrow (by (try simp only [World.size_alloc, World.size_drew]); omega) (fun g e => (hrow6.out.lt g e).1))
          have hq6 := Lib.hid (hq5.out.below hb7.out (by omega))
          have m0 := hq6.out.c0
          have m3 := hq6.out.f0
          have m9 := hq6.out.lt
          clear hown hgrow q0 q3 q9
          repeat (first | ((with_reducible refine wpD_p (fun K hK => ?_)); go_simp; refine hK _ ?_; clear hK K) | ((with_reducible refine wpD_q (fun K hK => ?_)); go_simp; (first | refine hK _ ?_ | (go_bits; refine hK _ ?_) | (go_bits; go_simp; refine hK _ ?_)); clear hK K))
          with_reducible refine wpD_b (fun K hK => ?_)
          go_simp
          refine hK _ _ ?_
          clear hK K
          with_reducible refine wpD_nil ?_
          go_wp2
          go_roundg (kd - (j + 1))
          case measure => omega
          case rel => exact ⟨j + 1, A5, c5, by omega, by go_num, Lib.hid (by rw [hn.out, List.length_append, hNH.out]; exact hq6.out.set0), Lib.hid (by rw [hn.out, List.length_append, hNH.out, ptCells_snoc]; exact ownsRow_setCell_below hownH.out (a := ⟨w2.heap.size, 0, none⟩) (show w2.heap.size < w3.heap.size by omega) _), Lib.hid ((hmk.out.step ((hB5.out.mono (by omega)).trans hb7.out) (by omega)).set (p := ⟨w2.heap.size, 0, none⟩) (Nat.le_refl _) (show w2.heap.size < w3.heap.size by omega) _)⟩
        · have hn := Lib.hid (show lackL ys rs (j + 1) = L by rw [← hLH.out]; exact lackL_no he (fun h => ha0 (hai.2 h)))
          clear he ha hc hDr hai
          go_wp2_with fail
          refine (l03Index_at hCr.out hVc haH.out).mono ?_
          rintro e' w5 ⟨rfl, hb5⟩
          have hB5 := Lib.hid hb5
          have s5 := hb5.size
          clear hb5
          go_wp2
          go_roundg (kd - (j + 1))
          case measure => omega
          case rel => exact ⟨j + 1, A2, c2, by omega, by go_num, Lib.hid (by rw [hn.out, hNH.out]; exact hq.out.below hB5.out hq.out.lt), Lib.hid (by rw [hn.out, hNH.out]; exact ownsRow_below hrow.out hB5.out), Lib.hid (hmk.out.step (hB5.out.mono (by omega)) (by omega))⟩
      · obtain rfl : j = kd := by omega
        have hjE : ¬ (j : Int) < (j : Int) := by omega
        go_wp2_with fail
        refine (l25Loose_any (hS1.out.below hBr1.out) hVx (hC1.out.below hBr1.out) hVc).mono ?_
        rintro e w6 ⟨v, rfl, hrowL, hb6⟩
        rw [hkl] at hrowL
        obtain ⟨F, cf, rfl⟩ := ownsRow_form hrowL
        have hrowLH := Lib.hid hrowL
        have hB6 := Lib.hid hb6
        have s6 := hb6.size
        have hLn := looseN_len gs ts xs ys t k
        have hq6 := Lib.hid (hq.out.below hb6 hq.out.lt)
        have hrow6 := Lib.hid (ownsRow_below hrow.out hb6)
        have z6 := (hb6.cell (p := ⟨w.heap.size + 2, 0, none⟩) (show w.heap.size + 2 < wr.heap.size by omega)).trans x5
        have hAlt := Lib.hid (fun g e => (hrow.out.lt g e).2)
        have hBw6 := Lib.hid (hBr.out.trans (hb6.mono hBr.out.size))
        clear hrowL hb6
        obtain ⟨wy, hwy⟩ : ∃ wy : World, wy = wr := ⟨_, rfl⟩
        subst hwy
        go_wp2
        go_loopg [12] (looseN gs ts xs ys t k).length (fun gk i wr => ∃ (j : Nat) (C2 : Option Addr) (d2 : Nat), j + gk = (looseN gs ts xs ys t k).length ∧ i = .int .i64 (j : Int) ∧ Hid (DgQ wr w2.heap.size (.slice A2 N c2) (.slice BQ nq cq) (.slice C2 j d2)) ∧ Hid (wr.ownsRow w6.heap.size 86 2 (.slice C2 j d2) j (ptCells (((looseN gs ts xs ys t k).map (ptOf ys)).take j))) ∧ Hid (Mk w2.heap.size w3.heap.size w6 wr))
        case atStart => exact ⟨0, none, 0, by omega, rfl, hq6, Lib.hid (World.ownsRow_nil _ _ _ _), Lib.hid (Mk.refl _ _ _)⟩
        case round =>
          obtain ⟨j2, C2, d2, hj2, rfl, hqx, hrowr, hmkx⟩ := hrel
          have hszx := hmkx.out.size
          have x6 := (hmkx.out.below.cell (p := ⟨w.heap.size + 2, 0, none⟩) c2').trans z6
          have e6 : w.heap.size + 2 < wr.heap.size := by omega
          have hBx := Lib.hid (hBw6.out.trans (hmkx.out.below.mono (show w.heap.size ≤ w2.heap.size by omega)))
          have e9x := hqx.out.lt
          by_cases hjn : j2 < (looseN gs ts xs ys t k).length
          · have hFx := rdI (ownsRow_mk hrowLH.out hmkx.out (show w3.heap.size ≤ wy.heap.size by omega))
            obtain ⟨v, hv⟩ := hFx.get hjn
            obtain ⟨bf, of_, hFe, hbf, hcf⟩ := hFx.ptr (by omega)
            have dv := hcf j2 v hv
            unfold RInt at dv
            simp only [Nat.mul_one] at dv
            subst hFe
            obtain ⟨i2, rfl, hik⟩ := looseN_lt gs ts xs ys t k v (List.mem_of_getElem? hv)
            have hCx := hCA.out.below RPl.stable hBx.out
            obtain ⟨e, he⟩ := hCx.get hik
            obtain ⟨b, ob, hCe, hb, hc⟩ := hCx.ptr (by omega)
            obtain ⟨d0, d1, d3⟩ := hc i2 e he
            subst hCe
            have hjI : (j2 : Int) < ((looseN gs ts xs ys t k).length : Int) := by omega
            have hj0 : (0 : Int) ≤ (j2 : Int) := by omega
            have hiI : (i2 : Int) < (k : Int) := by omega
            have hi0 : (0 : Int) ≤ (i2 : Int) := by omega
            have hn := Lib.hid (show ((looseN gs ts xs ys t k).map (ptOf ys)).take (j2 + 1) = ((looseN gs ts xs ys t k).map (ptOf ys)).take j2 ++ [⟨e.x, e.y⟩] by rw [List.take_add_one, List.getElem?_map, hv]; simp only [Option.map_some, ptOf, plOf_at he]; rfl)
            have q2 := hqx.out.c2
            have q5 := hqx.out.f2
            clear hc he hCx hcf hv hFx
            go_wp2
            refine wp_region_ord [(0, .q), (1, .q), (2, .q), (3, .q), (4, .q), (5, .q), (6, .q), (7, .q), (8, .q), (9, .q), (10, .q), (11, .g), (12, .b), (13, .q), (14, .b)] (by kernel_rfl) (by kernel_rfl) ?_
            simp only [pick, List.filterMap_cons, List.filterMap_nil, List.getElem?_toArray, List.getElem?_cons_zero, List.getElem?_cons_succ, Option.map_some]
            repeat (first
              | ((with_reducible refine wpD_p (fun K hK => ?_)); go_simp; refine hK _ ?_; clear hK K)
              | ((with_reducible refine wpD_q (fun K hK => ?_)); go_simp; (first | refine hK _ ?_ | (go_bits; refine hK _ ?_) | (go_bits; go_simp; refine hK _ ?_)); clear hK K)
              | ((with_reducible refine wpD_g (fun K hK => ?_)); go_simp; refine hK _ _ ?_; clear hK K)
              | ((with_reducible refine wpD_g (fun K hK => ?_)); go_simp; refine ⟨Grew.of_alloc _, hK _ _ ?_⟩; clear hK K))
            have hb7 : Below wr.heap.size wr (wr.alloc (Obj.cells #[.int .i64 e.x, .int .i64 e.y] 86)).drew := by exact bel_
            have hb7H := Lib.hid hb7
            have hrow7 := Lib.hid (ownsRow_below hrowr.out hb7)
            clear hb7
            refine wpD_append rfl _ _ 48 rfl w6.heap.size 86 i0 (.agg #[.int .i64 0, .int .i64 0]) 2 16 Tryz.underlying48 hi hz0 hz1 hz2 rfl (by decide) (.slice C2 j2 d2) j2 (ptCells (((looseN gs ts xs ys t k).map (ptOf ys)).take j2)) (by go_simp) hrow7.out ⟨wr.heap.size, 0, none⟩ 1 1 [.int .i64 e.x, .int .i64 e.y] (by go_simp) rfl ?hnews2 (fun x hx => by simp at hx; rcases hx with rfl | rfl <;> rfl) (by unfold maxLen; omega) (by omega) (by (try simp only [World.size_alloc, World.size_drew]); omega) ?_
            case hnews2 =>
              have := cell_two_new wr (.int .i64 e.x) (.int .i64 e.y) 86
              simpa using this
            intro v8 w8 hown hgrow
            obtain ⟨A8, c8, rfl⟩ := ownsRow_form hown
            have hownH := Lib.hid hown
            have hb8 := Lib.hid (show Below w6.heap.size wr w8 from (hb7H.out.mono (by omega)).grown hgrow (by (try simp only [World.size_alloc, World.size_drew]); omega) (fun g e => (hrow7.out.lt g e).1))
            have hq8 := Lib.hid (hqx.out.below hb8.out (by omega))
            have m2 := hq8.out.c2
            have m5 := hq8.out.f2
            have m9 := hq8.out.lt
            clear hown hgrow q2 q5
            repeat (first | ((with_reducible refine wpD_p (fun K hK => ?_)); go_simp; refine hK _ ?_; clear hK K) | ((with_reducible refine wpD_q (fun K hK => ?_)); go_simp; (first | refine hK _ ?_ | (go_bits; refine hK _ ?_) | (go_bits; go_simp; refine hK _ ?_)); clear hK K))
            with_reducible refine wpD_b (fun K hK => ?_)
            go_simp
            refine hK _ _ ?_
            clear hK K
            with_reducible refine wpD_nil ?_
            go_wp2
            go_roundg ((looseN gs ts xs ys t k).length - (j2 + 1))
            case measure => omega
            case rel => exact ⟨j2 + 1, A8, c8, by omega, by go_num, Lib.hid hq8.out.set2, Lib.hid (by rw [hn.out, ptCells_snoc]; exact ownsRow_setCell_below hownH.out (a := ⟨w2.heap.size, 2, none⟩) (show w2.heap.size < w6.heap.size by omega) _), Lib.hid ((hmkx.out.step hb8.out (by omega)).set (p := ⟨w2.heap.size, 2, none⟩) (Nat.le_refl _) (show w2.heap.size < w3.heap.size by omega) _)⟩
          · obtain rfl : j2 = (looseN gs ts xs ys t k).length := by omega
            have hjF : ¬ ((looseN gs ts xs ys t k).length : Int) < ((looseN gs ts xs ys t k).length : Int) := by omega
            have hlos : (looseN gs ts xs ys t k).map (ptOf ys) = losP gs ts xs t ys := by unfold losP; rw [hkl]
            have htk : ((looseN gs ts xs ys t k).map (ptOf ys)).take (looseN gs ts xs ys t k).length = losP gs ts xs t ys := by rw [List.take_of_length_le (by rw [List.length_map]; exact Nat.le_refl _), hlos]
            have hll : (losP gs ts xs t ys).length = (looseN gs ts xs ys t k).length := by rw [← hlos, List.length_map]
            rw [htk] at hrowr
            have hllH := Lib.hid hll
            have q0 := hqx.out.c0
            have q1 := hqx.out.c1
            have q2 := hqx.out.c2
            have hr8 := Lib.hid (hQ1.out.below (((hBr1.out.trans (hB6.out.mono (show w1.heap.size ≤ wy.heap.size by omega))).trans (hmkx.out.below.mono s2))) b3)
            have r0 := hr8.out.c0
            have r1 := hr8.out.c1
            have r2 := hr8.out.c2
            have r3 := hr8.out.f0
            have r4 := hr8.out.f1
            have r5 := hr8.out.f2
            have r6 := hr8.out.lt
            clear hlos htk hll
            go_wp2
            refine bodyPost_ret (v := .tuple #[.agg #[.slice A2 N c2, .slice BQ nq cq, .slice C2 (looseN gs ts xs ys t k).length d2], .int .i64 0]) (by simp only [results, Tryz.results22]; go_simp) rfl ?_
            rw [← hllH.out]
            rw [← hllH.out] at hrowr
            have h9 := hNH.out
            subst h9
            have h8 := hLH.out
            subst h8
            have h7 := hnqH.out
            subst h7
            exact DmgRes.of hR.out rfl rfl rfl (Own3.final (l := ⟨lackL ys rs j, errL rs ys k, losP gs ts xs t ys⟩) (ownsRow_belowB hrowQH.out (fun g e => (hrowQH.out.lt g e).2) (((hB23.out.trans hmk.out.below).trans (hB6.out.mono (by omega))).trans hmkx.out.below)) (fun g e => Nat.lt_of_lt_of_le (hrowQH.out.lt g e).2 (by omega)) (ownsRow_mk hrow6.out hmkx.out (Nat.le_refl _)) (fun g e => Nat.lt_of_lt_of_le (hAlt.out g e) s6) hrowr.out hB1.out.size (by omega) (by omega) (by omega) b3) (by have h6 := hBx.out; exact bel_)
  · have hr1 : (r != 0) = true := by simpa using hr0
    clear hrE
    go_enter Tryz.func22, Tryz.ntmps22
    go_wp2_with fail
    refine (l28Asked_at hS.out hD.out hC.out (by omega) (by omega) hrH.out).mono ?_
    rintro e w1 ⟨rfl, hb1⟩
    have hB1 := Lib.hid (show Below w.heap.size w w1 by exact bel_)
    obtain ⟨chb1, fhb1, shb1, thb1⟩ := bcell hb1
    have b3 := shb1 (w.heap.size + 3) (by go_simp)
    have hQ1 : DgQ w1 (w.heap.size + 3) (.slice none 0 0) (.slice none 0 0) (.slice none 0 0) := ⟨b3, (hb1.cell (p := ⟨w.heap.size + 3, 0, none⟩) (by go_simp)).trans (by go_simp), (hb1.cell (p := ⟨w.heap.size + 3, 1, none⟩) (by go_simp)).trans (by go_simp), (hb1.cell (p := ⟨w.heap.size + 3, 2, none⟩) (by go_simp)).trans (by go_simp), (hb1.frozen (p := ⟨w.heap.size + 3, 0, none⟩) (by go_simp)).trans (by go_simp), (hb1.frozen (p := ⟨w.heap.size + 3, 1, none⟩) (by go_simp)).trans (by go_simp), (hb1.frozen (p := ⟨w.heap.size + 3, 2, none⟩) (by go_simp)).trans (by go_simp)⟩
    have q0 := hQ1.c0
    have q1 := hQ1.c1
    have q2 := hQ1.c2
    have q3 := hQ1.f0
    have q4 := hQ1.f1
    have q5 := hQ1.f2
    go_wp2
    refine bodyPost_ret (v := .tuple #[.agg #[.slice none 0 0, .slice none 0 0, .slice none 0 0], .int .i64 r]) (by simp only [results, Tryz.results22]; go_simp) rfl ?_
    exact DmgRes.of (dmgR_no hrH.out hr0) rfl rfl rfl (Own3.empty _ (by (try simp); omega)) (by have h9 := hB1.out; exact bel_)
end Go.Proofs.YtglcpphfmmnmkaaGreat
