import Derived.Test.YtmpmokefgdjnkaaGreatKT
import Derived.Test.YtmpmokefgdjnkaaGreatKQ
import Derived.Test.YtmpmokefgdjnkaaGreatKR
import Derived.Test.YtmpmokefgdjnkaaGreatHTo
import Derived.Lib.LazyBuf
import Derived.Lib.SliceRun
set_option linter.unusedSimpArgs false
set_option linter.unusedVariables false
/- Plain: wrong, missing and loose points of a damaged assembly. -/



namespace Go.Proofs.YtmpmokefgdjnkaaGreat
open Go.RowKit Go.Shelf
def toPt (e : Pl) : Pt := ⟨e.x, e.y⟩
/-- the points of the first k tiles that the right assembly does not have so -/
noncomputable def errL (rs ys : List Pl) : Nat → List Pt
  | 0 => []
  | k + 1 => errL rs ys k ++ (match ys[k]? with
    | some e => if atI rs e.x e.y = e.t then [] else [toPt e]
    | none => [])
/-- the points of the first k tiles of the right assembly that are free -/
noncomputable def lackL (ys rs : List Pl) : Nat → List Pt
  | 0 => []
  | k + 1 => lackL ys rs k ++ (match rs[k]? with
    | some e => if atI ys e.x e.y < 0 then [toPt e] else []
    | none => [])
section
variable {rs ys : List Pl} {k : Nat} {e : Pl}
theorem errL_no (he : ys[k]? = some e) (h : atI rs e.x e.y = e.t) : errL rs ys (k + 1) = errL rs ys k := by simp only [errL, he]; rw [if_pos h, List.append_nil]
theorem errL_yes (he : ys[k]? = some e) (h : ¬ atI rs e.x e.y = e.t) : errL rs ys (k + 1) = errL rs ys k ++ [toPt e] := by simp only [errL, he]; rw [if_neg h]
theorem lackL_no (he : rs[k]? = some e) (h : ¬ atI ys e.x e.y < 0) : lackL ys rs (k + 1) = lackL ys rs k := by simp only [lackL, he]; rw [if_neg h, List.append_nil]
theorem lackL_yes (he : rs[k]? = some e) (h : atI ys e.x e.y < 0) : lackL ys rs (k + 1) = lackL ys rs k ++ [toPt e] := by simp only [lackL, he]; rw [if_pos h]
theorem errL_len (rs ys : List Pl) : ∀ k, (errL rs ys k).length ≤ k
  | 0 => Nat.le_refl _
  | k + 1 => by
    have := errL_len rs ys k
    simp only [errL, List.length_append]
    split
    · split <;> simp <;> omega
    · simp; omega
theorem lackL_len (ys rs : List Pl) : ∀ k, (lackL ys rs k).length ≤ k
  | 0 => Nat.le_refl _
  | k + 1 => by
    have := lackL_len ys rs k
    simp only [lackL, List.length_append]
    split
    · split <;> simp <;> omega
    · simp; omega
end
/-- the tile and the point at an index -/
def plOf (ys : List Pl) (i : Int) : Pl := match ys[i.toNat]? with
  | some e => e
  | none => ⟨0, 0, 0⟩
def ptOf (ys : List Pl) (i : Int) : Pt := toPt (plOf ys i)
theorem plOf_at {ys : List Pl} {k : Nat} {e : Pl} (he : ys[k]? = some e) : plOf ys (k : Int) = e := by
  unfold plOf
  rw [show ((k : Nat) : Int).toNat = k by omega, he]
theorem looseN_lt (gs : List Gl) (ts : List Ti) (xs ys : List Pl) (t : Int) : ∀ k, ∀ v ∈ looseN gs ts xs ys t k, ∃ i : Nat, v = (i : Int) ∧ i < k
  | 0, v, h => by simp [looseN, looseL] at h
  | k + 1, v, h => by
    unfold looseN at h
    simp only [looseL, List.map_append, List.mem_append] at h
    rcases h with h | h
    · obtain ⟨i, h1, h2⟩ := looseN_lt gs ts xs ys t k v h
      exact ⟨i, h1, by omega⟩
    · split at h
      · split at h
        · simp at h
          exact ⟨k, h, by omega⟩
        · simp at h
      · simp at h
structure Dm where
  p : List Pt
  q : List Pt
  r : List Pt
noncomputable def repI (gs : List Gl) (ts : List Ti) (xs : List Pl) (t : Int) (rs ys : List Pl) : Int :=
  if (growB gs ts xs t rs && growB gs ts xs t ys) = false then 1 else if (withinB xs rs && withinB xs ys) = false then 2 else 0
theorem repI_zero {gs : List Gl} {ts : List Ti} {xs : List Pl} {t : Int} {rs ys : List Pl} (h : repI gs ts xs t rs ys = 0) : growB gs ts xs t rs = true ∧ growB gs ts xs t ys = true := by
  unfold repI at h
  cases h1 : growB gs ts xs t rs
  · rw [h1] at h; simp at h
  · cases h2 : growB gs ts xs t ys
    · rw [h1, h2] at h; simp at h
    · exact ⟨rfl, rfl⟩
noncomputable def losP (gs : List Gl) (ts : List Ti) (xs : List Pl) (t : Int) (ys : List Pl) : List Pt := (looseN gs ts xs ys t ys.length).map (ptOf ys)
noncomputable def dmgR (gs : List Gl) (ts : List Ti) (xs : List Pl) (t : Int) (rs ys : List Pl) : Dm × Int :=
  if repI gs ts xs t rs ys ≠ 0 then (⟨[], [], []⟩, repI gs ts xs t rs ys) else (⟨lackL ys rs rs.length, errL rs ys ys.length, losP gs ts xs t ys⟩, 0)
section
variable {gs : List Gl} {ts : List Ti} {xs : List Pl} {t : Int} {rs ys : List Pl}
theorem dmgR_no {r : Int} (h : repI gs ts xs t rs ys = r) (h0 : r ≠ 0) : ((⟨[], [], []⟩, r) : Dm × Int) = dmgR gs ts xs t rs ys := by unfold dmgR; rw [h, if_pos h0]
theorem dmgR_yes (h : repI gs ts xs t rs ys = 0) : ((⟨lackL ys rs rs.length, errL rs ys ys.length, losP gs ts xs t ys⟩, 0) : Dm × Int) = dmgR gs ts xs t rs ys := by unfold dmgR; rw [h, if_neg (by decide)]
theorem dmgR_len (gs : List Gl) (ts : List Ti) (xs : List Pl) (t : Int) (rs ys : List Pl) : (dmgR gs ts xs t rs ys).1.p.length ≤ 1000 ∧ (dmgR gs ts xs t rs ys).1.q.length ≤ 1000 ∧ (dmgR gs ts xs t rs ys).1.r.length ≤ 1000 := by
  unfold dmgR
  split
  · simp
  · rename_i h
    have h0 : repI gs ts xs t rs ys = 0 := by simpa using h
    have h1 := (valid_of (growB_true (repI_zero h0).1).2).len
    have h2 := (valid_of (growB_true (repI_zero h0).2).2).len
    have h3 := lackL_len ys rs rs.length
    have h4 := errL_len rs ys ys.length
    have h5 := looseN_len gs ts xs ys t ys.length
    refine ⟨show (lackL ys rs rs.length).length ≤ 1000 by omega, show (errL rs ys ys.length).length ≤ 1000 by omega, ?_⟩
    show (losP gs ts xs t ys).length ≤ 1000
    unfold losP
    rw [List.length_map]
    omega
end
theorem cell_two_new (w : World) (a b : Value) (t : TypeId) : ∀ j u, [a, b][j]? = some u → (w.alloc (.cells #[a, b] t)).cell? ((⟨w.heap.size, 0, none⟩ : Addr).add j) = some u := by
  intro j u hj
  match j, hj with
  | 0, hj => simp at hj; subst hj; simp [Addr.add]
  | 1, hj => simp at hj; subst hj; simp [Addr.add]
  | j + 2, hj => simp at hj
/-- a row of points of the call's own -/
def PtsOwn (w : World) (l : List Pt) (e : Ending) (w' : World) : Prop :=
  ∃ A c, e = .returned (.slice A l.length c) ∧ w'.ownsRow w.heap.size 89 2 (.slice A l.length c) l.length (ptCells l) ∧ Below w.heap.size w w'
theorem infoPtW : (Tryz.prog.info? 89).map (fun i => (i.zero, i.size, i.bytes)) = some (some (.agg #[.int .i64 0, .int .i64 0]), 2, 16) := by kernel_rfl
end Go.Proofs.YtmpmokefgdjnkaaGreat
/- Words on rows of placed tiles; such a row copied. -/




namespace Go.Proofs.YtmpmokefgdjnkaaGreat
open Go.RowKit Go.Shelf
attribute [local go_sem] BelowBy.cell BelowBy.cell_drew stillUpon givesUpon BelowBy.cell_drew2 BelowBy.cell_drew3

def plCells : List Pl → List Value
  | [] => []
  | b :: l => .int .i64 b.x :: .int .i64 b.y :: .int .i64 b.t :: plCells l
theorem plCells_len (l : List Pl) : (plCells l).length = l.length * 3 := by
  induction l with
  | nil => rfl
  | cons b l ih => simp only [plCells, List.length_cons, ih]; omega
theorem plCells_snoc (l : List Pl) (b : Pl) : plCells (l ++ [b]) = plCells l ++ [.int .i64 b.x, .int .i64 b.y, .int .i64 b.t] := by
  induction l with
  | nil => rfl
  | cons a l ih => simp [plCells, ih]
theorem plCells_one (bs : List Pl) : ∀ u ∈ plCells bs, u.oneCell' = true := by
  induction bs with
  | nil => simp [plCells]
  | cons b l ih =>
    intro u hu
    simp only [plCells, List.mem_cons] at hu
    rcases hu with rfl | rfl | rfl | hu
    · rfl
    · rfl
    · rfl
    · exact ih u hu
theorem plCells_get : ∀ (bs : List Pl) (k : Nat) (e : Pl), bs[k]? = some e → (plCells bs)[k * 3]? = some (.int .i64 e.x) ∧ (plCells bs)[k * 3 + 1]? = some (.int .i64 e.y) ∧ (plCells bs)[k * 3 + 2]? = some (.int .i64 e.t)
  | [], k, e, h => by simp at h
  | b :: bs, 0, e, h => by
    simp at h
    subst h
    simp [plCells]
  | b :: bs, k + 1, e, h => by
    have := plCells_get bs k e (by simpa using h)
    have h3 : (k + 1) * 3 = k * 3 + 1 + 1 + 1 := by omega
    rw [h3]
    simpa [plCells, Nat.add_assoc] using this
theorem plCells_set : ∀ (bs : List Pl) (k : Nat) (e : Pl) (x y : Int), bs[k]? = some e → ((plCells bs).set (k * 3) (.int .i64 x)).set (k * 3 + 1) (.int .i64 y) = plCells (bs.set k ⟨x, y, e.t⟩)
  | [], k, e, x, y, h => by simp at h
  | b :: bs, 0, e, x, y, h => by
    simp at h
    subst h
    simp [plCells]
  | b :: bs, k + 1, e, x, y, h => by
    have := plCells_set bs k e x y (by simpa using h)
    have h3 : (k + 1) * 3 = k * 3 + 1 + 1 + 1 := by omega
    rw [h3]
    simpa [plCells, Nat.add_assoc] using this
theorem plCells_of_rd {w : World} {b o : Nat} {xs : List Pl} (h : ∀ k e, xs[k]? = some e → RPl w b (o + k * 3) e) : ∀ j u, (plCells xs)[j]? = some u → w.cell? ((⟨b, o, none⟩ : Addr).add j) = some u := by
  intro j u hj
  have hlt := (List.getElem?_eq_some_iff.1 hj).1
  rw [plCells_len] at hlt
  obtain ⟨k, hk⟩ : ∃ k, j / 3 = k := ⟨_, rfl⟩
  obtain ⟨e, he⟩ : ∃ e, xs[k]? = some e := ⟨_, List.getElem?_eq_getElem (by omega)⟩
  obtain ⟨g0, g1, g2⟩ := plCells_get xs _ e he
  obtain ⟨c0, c1, c2⟩ := h _ e he
  rw [Addr.add_lit]
  have : j = k * 3 ∨ j = k * 3 + 1 ∨ j = k * 3 + 2 := by omega
  rcases this with rfl | rfl | rfl
  · rw [← Option.some.inj (g0.symm.trans hj)]; exact c0
  · rw [← Option.some.inj (g1.symm.trans hj), ← Nat.add_assoc]; exact c1
  · rw [← Option.some.inj (g2.symm.trans hj), ← Nat.add_assoc]; exact c2
theorem rdP_of_row {W : World} {base : Nat} {T : TypeId} {v : Value} {bs : List Pl} (h : W.ownsRow base T 3 v bs.length (plCells bs)) : ∃ A cap, v = .slice A bs.length cap ∧ RdSl 3 RPl W A bs.length bs := by
  rcases h.2 with ⟨rfl, h0⟩ | ⟨g, cap, cur, rfl, hb, hh, hn, hm, hs, ht⟩
  · exact ⟨none, 0, by rw [h0], rfl, fun hp => by omega⟩
  · refine ⟨_, cap, rfl, rfl, fun hp => ⟨g, 0, rfl, (Array.getElem?_eq_some_iff.1 hh).1, fun k hk => ?_⟩⟩
    have hg := plCells_get bs k _ (List.getElem?_eq_getElem hk)
    rw [← ht] at hg
    have hcell : ∀ j u, (cur.toList.take (bs.length * 3))[j]? = some u → W.cell? ⟨g, j, none⟩ = some u := fun j u hj => by
      rw [List.getElem?_take] at hj
      split at hj
      · simp only [World.cell?, hh]
        simpa using hj
      · cases hj
    rw [Nat.zero_add]
    exact ⟨hcell _ _ hg.1, hcell _ _ hg.2.1, hcell _ _ hg.2.2⟩
def OwnPl (w : World) (bs : List Pl) (e : Ending) (w' : World) : Prop := ∃ v, e = .returned v ∧ w'.ownsRow w.heap.size 95 3 v bs.length (plCells bs) ∧ Below w.heap.size w w'
end Go.Proofs.YtmpmokefgdjnkaaGreat
/- Walks: points of an assembly; wrong points; a part of an assembly; the code of a repair; the program. -/


namespace Go.Proofs.YtmpmokefgdjnkaaGreat
open Go.RowKit Go.Shelf
attribute [local go_sem] BelowBy.cell BelowBy.cell_drew stillUpon givesUpon BelowBy.cell_drew2 BelowBy.cell_drew3

set_option maxRecDepth 100000 in
set_option maxHeartbeats 2000000 in
theorem points_any {C : Option Addr} {k cc : Nat} {zs : List Pl} {w : World} (h : RdSl 3 RPl w C k zs) (hk : k ≤ 100000) :
    Calls Tryz.prog 53 #[.agg #[.slice C k cc]] w (PtsOwn w (zs.map toPt)) := by
  obtain ⟨i0, hi, hz0, hz1, hz2⟩ := info_parts infoPtW
  
  have hC := Lib.hid h
  have hl := h.len
  clear h
  go_enter Tryz.func53, Tryz.ntmps53
  go_wp2
  go_loopg [9, 3] k (fun gk i v wr => ∃ (j : Nat) (A2 : Option Addr) (c2 : Nat), j + gk = k ∧ i = .int .i64 (j : Int) ∧ v = .slice A2 j c2 ∧ Hid (wr.ownsRow (w.heap.size + 1) 89 2 (.slice A2 j c2) j (ptCells ((zs.map toPt).take j))) ∧ Hid (Below w.heap.size w wr) ∧ w.heap.size + 1 ≤ wr.heap.size)
  case atStart => exact ⟨0, none, 0, by omega, rfl, rfl, Lib.hid (World.ownsRow_nil _ _ _ _), Lib.hid (by exact bel_), by simp⟩
  case round =>
    obtain ⟨j, A2, c2, hj, rfl, rfl, hrow, hbw, hsz⟩ := hrel
    by_cases hjk : j < k
    · have hAw := hC.out.below RPl.stable hbw.out
      obtain ⟨e, he⟩ := hAw.get hjk
      obtain ⟨b, ob, hCe, hb, hc⟩ := hAw.ptr (by omega)
      obtain ⟨d0, d1, d2⟩ := hc j e he
      subst hCe
      have hb' : b ≤ wr.heap.size := by omega
      have hjI : (j : Int) < (k : Int) := by omega
      have hj0 : (0 : Int) ≤ (j : Int) := by omega
      have hn := Lib.hid (show (zs.map toPt).take (j + 1) = (zs.map toPt).take j ++ [⟨e.x, e.y⟩] by rw [List.take_add_one, List.getElem?_map, he]; rfl)
      clear hc he hAw
      go_wp2_with (at_builtin; go_loud (refine wpList_append_own _ rfl _ _ 92 rfl (w.heap.size + 1) 89 i0 (.agg #[.int .i64 0, .int .i64 0]) 2 16 Tryz.underlying92 hi hz0 hz1 hz2 rfl (by decide) _ j _ rfl ((hrow.out.alloc _).alloc _) ⟨wr.heap.size + 1, 0, none⟩ 1 1 [.int .i64 e.x, .int .i64 e.y] rfl rfl (by have := cell_two_new (wr.alloc (Obj.cells #[.int .i64 e.x, .int .i64 e.y, .int .i64 e.t] 95)) (.int .i64 e.x) (.int .i64 e.y) 89; simpa using this) (fun x hx => by simp at hx; rcases hx with rfl | rfl <;> rfl) (by unfold maxLen; omega) (by omega) (by simp; omega) ?_; intro v' w4 hown' hgrow _; obtain ⟨A5, c5, rfl⟩ := ownsRow_form hown'; have hownH := Lib.hid hown'; have hb4 := Lib.hid (show Below (w.heap.size + 1) (wr.alloc (Obj.cells #[.int .i64 e.x, .int .i64 e.y, .int .i64 e.t] 95)) w4 from below_app (by (try simp); omega) (fun g e => (hrow.out.lt g e).1) hgrow); clear hown' hgrow))
      have s4 := hb4.out.size
      simp only [World.size_alloc] at s4
      go_wp2
      go_roundg (k - (j + 1))
      case measure => omega
      case rel => exact ⟨j + 1, A5, c5, by omega, by go_num, rfl, Lib.hid (by rw [hn.out, ptCells_snoc]; exact hownH.out), Lib.hid (hbw.out.trans (((bl_al (bl_refl _) _).mono (by omega)).trans (hb4.out.mono (by omega)))), by omega⟩
    · obtain rfl : j = k := by omega
      have ht := Lib.hid (show (zs.map toPt).take j = zs.map toPt from List.take_of_length_le (by rw [List.length_map, hl]; exact Nat.le_refl _))
      have hln := Lib.hid (show (zs.map toPt).length = j by rw [List.length_map, hl])
      have hrow2 := Lib.hid (ownsRow_base hrow.out (show w.heap.size ≤ w.heap.size + 1 by omega))
      go_wp2
      go_ret
      exact ⟨A2, c2, by rw [hln.out]; first | done | rfl, by rw [hln.out]; have := hrow2.out; rw [ht.out] at this; exact this, hbw.out⟩
/-- an assembly that is a part of another -/
def PlsOwn (w : World) (l : List Pl) (e : Ending) (w' : World) : Prop :=
  ∃ A c, e = .returned (.agg #[.slice A l.length c]) ∧ RdSl 3 RPl w' A l.length l ∧ Below w.heap.size w w'
end Go.Proofs.YtmpmokefgdjnkaaGreat
