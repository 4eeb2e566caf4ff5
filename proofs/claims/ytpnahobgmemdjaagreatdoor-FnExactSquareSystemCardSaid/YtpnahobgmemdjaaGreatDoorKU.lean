import Derived.Test.YtpnahobgmemdjaaGreatDoorKT
import Derived.Test.YtpnahobgmemdjaaGreatDoorKR
set_option linter.unusedSimpArgs false
set_option linter.unusedVariables false
/- Plain: two rows of numbers beside the reference's maker. -/


namespace Go.Proofs.YtpnahobgmemdjaaGreatDoor
open Go.RowKit Go.Shelf
theorem nm_tQ3 (d : Nat) : NmQ (tQ3 d) (fun c => (c.1 = 0 ∧ c.2.1 < 2 ∧ c.2.2 < 11) ∨ ((c.1 = 1 ∨ c.1 = 2) ∧ c.2.1 = 0 ∧ c.2.2 = 0)) :=
  ((((nm_cntT).mono (fun c h => .inl (by omega))).app ((nm_cntT).mono (fun c h => .inl (by omega)))).app (NmQ.one (.inr ⟨.inl rfl, rfl, rfl⟩))).app (NmQ.one (.inr ⟨.inr rfl, rfl, rfl⟩))
theorem nm_tQ2 : NmQ tQ2 (fun c => c.1 = 0 ∧ c.2.1 < 2 ∧ c.2.2 < 11) :=
  ((nm_cntT).mono (fun c h => by omega)).app ((nm_cntT).mono (fun c h => by omega))
theorem nm_tN {gs : List Gl} {d m : Nat} : ∀ i, NmQ ((List.range i).map (tNs gs d m)) (fun c => c.1 = 5 ∧ c.2.1 < i ∧ c.2.2 = 0)
  | 0 => NmQ.nil _
  | i + 1 => by
    rw [List.range_succ, List.map_append]
    exact ((nm_tN i).mono (fun c h => by omega)).app (NmQ.one ⟨rfl, Nat.lt_succ_self i, rfl⟩)
theorem nm_tE {gs : List Gl} {d m : Nat} : ∀ i, NmQ ((List.range i).map (tEs gs d m)) (fun c => c.1 = 6 ∧ c.2.1 < i ∧ c.2.2 = 0)
  | 0 => NmQ.nil _
  | i + 1 => by
    rw [List.range_succ, List.map_append]
    exact ((nm_tE i).mono (fun c h => by omega)).app (NmQ.one ⟨rfl, Nat.lt_succ_self i, rfl⟩)
/-- names of all tiles up to some words -/
def LQ (i j : Nat) (c : Cd) : Prop := ((c.1 = 0 ∧ c.2.1 < 2 ∧ c.2.2 < 11) ∨ ((c.1 = 1 ∨ c.1 = 2) ∧ c.2.1 = 0 ∧ c.2.2 = 0)) ∨ ((c.1 = 3 ∨ c.1 = 4) ∧ c.2.1 = 0 ∧ c.2.2 = 0) ∨ (c.1 = 5 ∧ c.2.1 < i ∧ c.2.2 = 0) ∨ (c.1 = 6 ∧ c.2.1 < j ∧ c.2.2 = 0)
theorem nm_end {ts : List Ti} {gs : List Gl} {d m : Nat} (i j : Nat) (h : NmQ ts (fun c => (c.1 = 0 ∧ c.2.1 < 2 ∧ c.2.2 < 11) ∨ ((c.1 = 1 ∨ c.1 = 2) ∧ c.2.1 = 0 ∧ c.2.2 = 0))) : NmQ (ts ++ endQ gs d m i j) (LQ i j) :=
  (h.mono (fun c h => .inl h)).app ((((NmQ.one (gs := gs) (c := (3, 0, 0)) (L := LQ i j) (.inr (.inl ⟨.inl rfl, rfl, rfl⟩))).app (NmQ.one (gs := gs) (c := (4, 0, 0)) (.inr (.inl ⟨.inr rfl, rfl, rfl⟩)))).app ((nm_tN i).mono (fun c h => .inr (.inr (.inl h))))).app ((nm_tE j).mono (fun c h => .inr (.inr (.inr h)))))
theorem LQ_ok {i j : Nat} {c d : Cd} (hi : i ≤ 5) (hj : j ≤ 5) (h : LQ i j c) (hd : (d.1 = 5 ∧ i ≤ d.2.1) ∨ (d.1 = 6 ∧ j ≤ d.2.1) ∨ d.1 = 7) : c ∈ tV ∧ c ≠ d := by
  unfold LQ at h
  refine ⟨in_tV (by omega), fun e => ?_⟩
  subst e
  omega
theorem fr_out {nm : ByteArray} (h : tqn (1, 0, 0) = nm) : ∀ t ∈ tQ2, t.name ≠ nm :=
  nm_tQ2.fresh (fun c h => ⟨in_tV (by omega), fun e => by subst e; simp at h⟩) (in_tV (by simp)) h
theorem fr_inn {gs : List Gl} {nm : ByteArray} (h : tqn (2, 0, 0) = nm) : ∀ t ∈ tQ2 ++ [tOut gs], t.name ≠ nm :=
  ((nm_tQ2.mono (L' := fun c => (c.1 = 0 ∧ c.2.1 < 2 ∧ c.2.2 < 11) ∨ (c.1 = 1 ∧ c.2.1 = 0 ∧ c.2.2 = 0)) (fun c h => .inl h)).app (NmQ.one (.inr ⟨rfl, rfl, rfl⟩))).fresh (fun c h => ⟨in_tV (by omega), fun e => by subst e; simp at h⟩) (in_tV (by simp)) h
theorem fr_nl {ts : List Ti} {nm : ByteArray} (hts : NmQ ts (fun c => (c.1 = 0 ∧ c.2.1 < 2 ∧ c.2.2 < 11) ∨ ((c.1 = 1 ∨ c.1 = 2) ∧ c.2.1 = 0 ∧ c.2.2 = 0))) (h : tqn (3, 0, 0) = nm) : ∀ t ∈ ts, t.name ≠ nm :=
  hts.fresh (fun c h => ⟨in_tV (by omega), fun e => by subst e; simp at h⟩) (in_tV (by simp)) h
theorem fr_el {ts : List Ti} {gs : List Gl} {nm : ByteArray} (hts : NmQ ts (fun c => (c.1 = 0 ∧ c.2.1 < 2 ∧ c.2.2 < 11) ∨ ((c.1 = 1 ∨ c.1 = 2) ∧ c.2.1 = 0 ∧ c.2.2 = 0))) (h : tqn (4, 0, 0) = nm) : ∀ t ∈ ts ++ [tNl gs], t.name ≠ nm :=
  ((hts.mono (L' := fun c => ((c.1 = 0 ∧ c.2.1 < 2 ∧ c.2.2 < 11) ∨ ((c.1 = 1 ∨ c.1 = 2) ∧ c.2.1 = 0 ∧ c.2.2 = 0)) ∨ (c.1 = 3 ∧ c.2.1 = 0 ∧ c.2.2 = 0)) (fun c h => .inl h)).app (NmQ.one (.inr ⟨rfl, rfl, rfl⟩))).fresh (fun c h => ⟨in_tV (by omega), fun e => by subst e; simp at h⟩) (in_tV (by simp)) h
/-- a row's numbers -/
def rowQ (a b k : Nat) : List Value := .int .i64 (a : Int) :: (List.range k).map fun i => .int .i64 ((b + i : Nat) : Int)
theorem rowQ_succ (a b k : Nat) : rowQ a b (k + 1) = rowQ a b k ++ [.int .i64 ((b + k : Nat) : Int)] := by simp [rowQ, List.range_succ]
theorem rowQ_len (a b k : Nat) : (rowQ a b k).length = k + 1 := by simp [rowQ]
theorem rowQ_get {a b k i : Nat} (h : i ≤ k) : (rowQ a b k)[i]? = some (.int .i64 ((if i = 0 then a else b + (i - 1) : Nat) : Int)) := by
  cases i with
  | zero => rfl
  | succ i => simp [rowQ, show i < k by omega]
theorem rowQ_N {d j : Nat} (h : j ≤ d) : (rowQ 24 26 d)[j]? = some (.int .i64 (sqN d j).t) := by
  rw [rowQ_get h]
  unfold sqN
  cases j with
  | zero => rfl
  | succ j => rw [if_neg (Nat.succ_ne_zero j), if_neg (Nat.succ_ne_zero j), show 26 + (j + 1 - 1) = 25 + (j + 1) by omega]
theorem rowQ_E {d j : Nat} (h : j ≤ d) : (rowQ 25 (26 + d) d)[j]? = some (.int .i64 (sqE d j).t) := by
  rw [rowQ_get h]
  unfold sqE
  cases j with
  | zero => rfl
  | succ j => rw [if_neg (Nat.succ_ne_zero j), if_neg (Nat.succ_ne_zero j), show 26 + d + (j + 1 - 1) = 25 + d + (j + 1) by omega]
theorem cell_one_newT (w : World) (a : Value) (t : TypeId) : ∀ j u, [a][j]? = some u → (w.alloc (Obj.cells #[a] t)).cell? ((⟨w.heap.size, 0, none⟩ : Addr).add j) = some u := by
  intro j u hj
  match j, hj with
  | 0, hj => simp at hj; subst hj; simp [Addr.add]
  | j + 1, hj => simp at hj
/-- an own row of one's own: its cells -/
theorem own_cells {w : World} {base n cap : Nat} {e : TypeId} {A : Option Addr} {xs : List Value} (h : w.ownsRow base e 1 (.slice A n cap) n xs) (h0 : 0 < n) :
    ∃ g, A = some ⟨g, 0, none⟩ ∧ base ≤ g ∧ g < w.heap.size ∧ ∀ j u, xs[j]? = some u → w.cell? ⟨g, j, none⟩ = some u := by
  obtain ⟨g, rfl⟩ : ∃ g, A = some ⟨g, 0, none⟩ := by
    rcases h.2 with ⟨_, h0⟩ | ⟨g, cap, cur, hv, _⟩
    · omega
    · injection hv with e; exact ⟨g, e⟩
  have hl := h.lt g rfl
  refine ⟨g, rfl, hl.1, hl.2, fun j u hj => ?_⟩
  exact (h.cellAt j (by have h1 := (List.getElem?_eq_some_iff.1 hj).1; have h2 := h.1; omega)).trans hj
structure Two2 (w : World) (x : Nat) (st : List Gl × List Ti) (A B : Option Addr) (ca cb p q i j : Nat) : Prop where
  mr : SkX w x st (fun g => (Value.slice A (i + 1) ca).ownBlock = some g ∨ (Value.slice B (j + 1) cb).ownBlock = some g)
  ra : w.ownsRow (x + 1) 2 1 (.slice A (i + 1) ca) (i + 1) (rowQ 24 p i)
  rb : w.ownsRow (x + 1) 2 1 (.slice B (j + 1) cb) (j + 1) (rowQ 25 q j)
  ne : ∀ g, (Value.slice A (i + 1) ca).ownBlock = some g → (Value.slice B (j + 1) cb).ownBlock ≠ some g
section
variable {w w5 : World} {x ca cb p q i j : Nat} {st : List Gl × List Ti} {A B : Option Addr}
theorem Two2.below (h : Two2 w x st A B ca cb p q i j) (hb : Below w.heap.size w w5) : Two2 w5 x st A B ca cb p q i j :=
  ⟨h.mr.below hb, ownsRow_below h.ra hb, ownsRow_below h.rb hb, h.ne⟩
theorem Two2.tile {st' : List Gl × List Ti} (h : Two2 w x st A B ca cb p q i j) (hM : SkX w5 x st' (fun g => (Value.slice A (i + 1) ca).ownBlock = some g ∨ (Value.slice B (j + 1) cb).ownBlock = some g)) (hF : Far SkTs w w5) : Two2 w5 x st' A B ca cb p q i j :=
  ⟨hM, ownsRow_far h.ra hF (by decide), ownsRow_far h.rb hF (by decide), h.ne⟩
theorem Two2.hX (h : Two2 w x st A B ca cb p q i j) : ∀ g, ((Value.slice A (i + 1) ca).ownBlock = some g ∨ (Value.slice B (j + 1) cb).ownBlock = some g) → g < w.heap.size := fun g e => by
  rcases e with e | e
  · exact (h.ra.lt g e).2
  · exact (h.rb.lt g e).2
theorem own_kept {v : Value} {n : Nat} {xs : List Value} {row : Option Nat} {base : Nat} {e : TypeId} {sz : Nat} (h : w.ownsRow base e sz v n xs) (hg : w.grownBy w5 row) (hne : ∀ g, row = some g → v.ownBlock ≠ some g) : w5.ownsRow base e sz v n xs := by
  refine h.kept hg ?_
  cases hb : v.ownBlock with
  | none => exact .inl rfl
  | some g => exact .inr fun e => hne g e.symm hb
theorem Two2.growA {A5 : Option Addr} {c5 : Nat} (h : Two2 w x st A B ca cb p q i j) (hown : w5.ownsRow (x + 1) 2 1 (.slice A5 (i + 1 + 1) c5) (i + 1 + 1) (rowQ 24 p i ++ [.int .i64 ((p + i : Nat) : Int)])) (hg : w.grownBy w5 (Value.slice A (i + 1) ca).ownBlock) (hat : (Value.slice A5 (i + 1 + 1) c5).ownBlock = (Value.slice A (i + 1) ca).ownBlock ∨ (Value.slice A5 (i + 1 + 1) c5).ownBlock = some w.heap.size) : Two2 w5 x st A5 B c5 cb p q (i + 1) j := by
  refine ⟨?_, by rw [rowQ_succ]; exact hown, own_kept h.rb hg h.ne, fun g e => ?_⟩
  · refine ((h.mr.clear_ (Y := fun g => ((Value.slice A (i + 1) ca).ownBlock = some g ∨ (Value.slice B (j + 1) cb).ownBlock = some g) ∨ w.heap.size ≤ g) (fun g e => e)).grown hg (fun g e => ⟨.inl (.inl e), (h.ra.lt g e).1⟩)).clear_ (fun g e => .inl ?_)
    rcases e with e | e
    · rcases hat with h2 | h2
      · exact .inl (.inl (h2.symm.trans e))
      · rw [h2] at e; injection e with e; exact .inr (by omega)
    · exact .inl (.inr e)
  · rcases hat with h2 | h2
    · exact h.ne g (h2.symm.trans e)
    · rw [h2] at e; injection e with e
      intro e2
      have := (h.rb.lt g e2).2
      omega
theorem Two2.growB {B5 : Option Addr} {c5 : Nat} (h : Two2 w x st A B ca cb p q i j) (hown : w5.ownsRow (x + 1) 2 1 (.slice B5 (j + 1 + 1) c5) (j + 1 + 1) (rowQ 25 q j ++ [.int .i64 ((q + j : Nat) : Int)])) (hg : w.grownBy w5 (Value.slice B (j + 1) cb).ownBlock) (hat : (Value.slice B5 (j + 1 + 1) c5).ownBlock = (Value.slice B (j + 1) cb).ownBlock ∨ (Value.slice B5 (j + 1 + 1) c5).ownBlock = some w.heap.size) : Two2 w5 x st A B5 ca c5 p q i (j + 1) := by
  refine ⟨?_, own_kept h.ra hg (fun g e e2 => h.ne g e2 e), by rw [rowQ_succ]; exact hown, fun g e => ?_⟩
  · refine ((h.mr.clear_ (Y := fun g => ((Value.slice A (i + 1) ca).ownBlock = some g ∨ (Value.slice B (j + 1) cb).ownBlock = some g) ∨ w.heap.size ≤ g) (fun g e => e)).grown hg (fun g e => ⟨.inl (.inr e), (h.rb.lt g e).1⟩)).clear_ (fun g e => .inl ?_)
    rcases e with e | e
    · exact .inl (.inl e)
    · rcases hat with h2 | h2
      · exact .inl (.inr (h2.symm.trans e))
      · rw [h2] at e; injection e with e; exact .inr (by omega)
  · rcases hat with h2 | h2
    · rw [h2]; exact h.ne g e
    · rw [h2]; intro e2; injection e2 with e2
      have := (h.ra.lt g e).2
      omega
theorem Two2.start {A : Option Addr} {ca : Nat} (hM : SkX w x st (fun g => (Value.slice A (0 + 1) ca).ownBlock = some g)) (hA : w.ownsRow (x + 1) 2 1 (.slice A (0 + 1) ca) (0 + 1) (rowQ 24 p 0)) (hx : x < w.heap.size) : Two2 (w.alloc (Obj.cells #[.int .i64 25] 2)) x st A (some ⟨w.heap.size, 0, none⟩) ca 1 p q 0 0 := by
  have hal : Below w.heap.size w (w.alloc (Obj.cells #[.int .i64 25] 2)) := bl_al (bl_refl _) _
  refine ⟨(hM.clear_ (fun g e => ?_)).below hal, ownsRow_below hA hal, World.ownsRow_lit (base := x + 1) (e := 2) (size := 1) w #[.int .i64 25] 1 (by omega) (by decide) rfl, fun g e e2 => ?_⟩
  · rcases e with e | e
    · exact .inl e
    · exact .inr (by have e2 : w.heap.size = g := by injection e
                     omega)
  · have := (hA.lt g e).2
    have e3 : w.heap.size = g := by injection e2
    omega
end
theorem seedQ_cells {d n1 tc : Nat} (h1 : n1 = d + 1) (h2 : 26 + d + d = tc) : plCells ((List.range n1).map (sqE d) ++ (List.range n1).map (sqN d)) ++ [.int .i64 (n1 : Int), .int .i64 (n1 : Int), .int .i64 (tc : Int)] = plCells (seedQ d) := by
  subst h1 h2
  rw [seedQ, plCells_snoc, show sqC d = ⟨((d + 1 : Nat) : Int), ((d + 1 : Nat) : Int), ((26 + d + d : Nat) : Int)⟩ by unfold sqC; rw [show 26 + 2 * d = 26 + d + d by omega]; rfl]
theorem close_sq {w w6 w9 : World} {S x d m n1 tc ng nt c1 c2 c9 : Nat} {A1 B2 A9 : Option Addr} {us : List Value} {gs : List Gl} {tt : List Ti} {X : Nat → Prop} (hS : squareS d m = ⟨gs, tt, seedQ d, 2⟩) (hng : gs.length = ng) (hnt : tt.length = nt)
    (hA6 : SkAt w6 x A1 c1 B2 c2 us (gs, tt) X) (hbw : Below S w6 w9) (hSe : w6.heap.size = S) (hn1 : n1 = d + 1) (htc : 26 + d + d = tc) (hwx : w.heap.size < x) (hxS : x < S) (hww : Below w.heap.size w w6)
    (hown : w9.ownsRow (S + 1) 67 3 (.slice A9 (n1 + n1 + 1) c9) (n1 + n1 + 1) (plCells ((List.range n1).map (sqE d) ++ (List.range n1).map (sqN d)) ++ [.int .i64 (n1 : Int), .int .i64 (n1 : Int), .int .i64 (tc : Int)])) :
    ∃ A B C ca cb cc, Ending.returned (Value.agg #[.slice A1 ng c1, .slice B2 nt c2, .slice A9 (n1 + n1 + 1) c9, .int .i64 2]) = Ending.returned (.agg #[.slice A (squareS d m).gs.length ca, .slice B (squareS d m).ts.length cb, .slice C (squareS d m).xs.length cc, .int .i64 2]) ∧
      (∃ us, OwnSy (((((w9.setCell ⟨S, 2, none⟩ (.slice A9 (n1 + n1 + 1) c9)).setCell ⟨w.heap.size, 0, none⟩ (.slice A1 ng c1)).setCell ⟨w.heap.size, 1, none⟩ (.slice B2 nt c2)).setCell ⟨w.heap.size, 2, none⟩ (.slice A9 (n1 + n1 + 1) c9)).setCell ⟨w.heap.size, 3, none⟩ (.int .i64 2)) w.heap.size
        (((((w9.setCell ⟨S, 2, none⟩ (.slice A9 (n1 + n1 + 1) c9)).setCell ⟨w.heap.size, 0, none⟩ (.slice A1 ng c1)).setCell ⟨w.heap.size, 1, none⟩ (.slice B2 nt c2)).setCell ⟨w.heap.size, 2, none⟩ (.slice A9 (n1 + n1 + 1) c9)).setCell ⟨w.heap.size, 3, none⟩ (.int .i64 2)).heap.size A B C ca cb cc us (squareS d m)) ∧
      Below w.heap.size w (((((w9.setCell ⟨S, 2, none⟩ (.slice A9 (n1 + n1 + 1) c9)).setCell ⟨w.heap.size, 0, none⟩ (.slice A1 ng c1)).setCell ⟨w.heap.size, 1, none⟩ (.slice B2 nt c2)).setCell ⟨w.heap.size, 2, none⟩ (.slice A9 (n1 + n1 + 1) c9)).setCell ⟨w.heap.size, 3, none⟩ (.int .i64 2)) := by
  have h4 := squareS_four d m
  rw [seedQ_cells hn1 htc] at hown
  have hsl : (seedQ d).length = n1 + n1 + 1 := by rw [seedQ_len]; omega
  rw [hS] at h4 ⊢
  subst hng hnt
  obtain ⟨v, hv⟩ : ∃ v, n1 + n1 + 1 = v := ⟨_, rfl⟩
  rw [hv] at hown hsl ⊢
  subst hsl
  have hbF : Below w6.heap.size w6 (w9.setCell ⟨S, 2, none⟩ (.slice A9 (seedQ d).length c9)) := by rw [hSe]; exact hbw.setCell (p := ⟨S, 2, none⟩) (Nat.le_refl S) _
  have hA9 := hA6.below hbF
  have hpl := ownsRow_lo (ownsRow_setB hown (p := ⟨S, 2, none⟩) (show S < S + 1 by omega) (.slice A9 (seedQ d).length c9)) (show w.heap.size + 1 ≤ S + 1 by omega)
  have hgl := ownsRow_lo hA9.gl (show w.heap.size + 1 ≤ x + 1 by omega)
  have hti := hA9.ti.rebase (show w.heap.size + 1 ≤ x + 1 by omega)
  have hwF : Below w.heap.size w (w9.setCell ⟨S, 2, none⟩ (.slice A9 (seedQ d).length c9)) := hww.trans (hbF.mono (by omega))
  have hsz := hwF.size
  have hlt1 : w.heap.size < w.heap.size + 1 := Nat.lt_succ_self _
  obtain ⟨W, hW⟩ : ∃ W, w9.setCell ⟨S, 2, none⟩ (.slice A9 (seedQ d).length c9) = W := ⟨_, rfl⟩
  rw [hW] at hpl hgl hti hwF hsz ⊢
  have hz : w.heap.size ≤ w.heap.size := Nat.le_refl _
  exact ⟨A1, B2, A9, c1, c2, c9, rfl, ⟨us, OwnSy.of (base := w.heap.size + 1) (Nat.le_succ _) (by simp; omega) (row_set4 hgl hlt1 _ _ _ _) (hti.set4 hlt1 _ _ _ _) (row_set4 hpl hlt1 _ _ _ _) h4⟩, (((hwF.setCell (p := ⟨w.heap.size, 0, none⟩) hz _).setCell (p := ⟨w.heap.size, 1, none⟩) hz _).setCell (p := ⟨w.heap.size, 2, none⟩) hz _).setCell (p := ⟨w.heap.size, 3, none⟩) hz _⟩
end Go.Proofs.YtpnahobgmemdjaaGreatDoor
/- Walks: the reference's system of a square. -/

namespace Go.Proofs.YtpnahobgmemdjaaGreatDoor
open Go.RowKit Go.Shelf
attribute [local go_sem] BelowBy.cell BelowBy.cell_drew stillUpon givesUpon

set_option maxRecDepth 100000 in
set_option maxHeartbeats 8000000 in
theorem lSystem_any (s d st : Nat) (w : World) (h1 : 4 ≤ s) (h2 : s ≤ 22) (hd : dgP s = d) (hst : stP s = st) :
    Calls Tryz.prog 10 #[.int .i64 (s : Int)] w fun e w' => ∃ A B C ca cb cc us, e = .returned (.agg #[.slice A (squareS d (2 ^ d - st)).gs.length ca, .slice B (squareS d (2 ^ d - st)).ts.length cb, .slice C (squareS d (2 ^ d - st)).xs.length cc, .int .i64 2]) ∧ OwnSy w' w.heap.size w'.heap.size A B C ca cb cc us (squareS d (2 ^ d - st)) ∧ Below w.heap.size w w' := by
  obtain ⟨i1, hi', hz0', hz1', hz2'⟩ := info_parts infoI
  obtain ⟨iP, hiP, hP0, hP1, hP2⟩ := info_parts infoPlS
  obtain ⟨p1, p2, p3, p4, p5, p6⟩ := parts_ok (s := s) (by omega) (by omega)
  have hdH := Lib.hid hd
  have hstH := Lib.hid hst
  rw [hd] at p1 p2 p5 p6
  rw [hst] at p4 p5
  obtain ⟨m, hm⟩ : ∃ m, 2 ^ d - st = m := ⟨_, rfl⟩
  rw [hm]
  obtain ⟨q, hq⟩ : ∃ q, 2 ^ d = q := ⟨_, rfl⟩
  have hqb : q ≤ 32 := by rw [← hq]; exact Nat.le_trans (Nat.pow_le_pow_right (by decide) p2) (by decide)
  have hqH := Lib.hid hq
  rw [hq] at hm p5
  have hwm : IntKind.i64.wrap ((q : Int) - (st : Int)) = (m : Int) := by rw [wrapT (by omega) (by omega)]; omega
  have hm32 : m ≤ 1000 := by omega
  obtain ⟨n1, hn1⟩ : ∃ n1 : Nat, d + 1 = n1 := ⟨_, rfl⟩
  have hn1H := Lib.hid hn1
  have hw1 : IntKind.i64.wrap ((d : Int) + 1) = (n1 : Int) := by rw [wrapT (by omega) (by omega)]; omega
  have hn1b : n1 ≤ 6 := by omega
  have kfill := Lib.hid (show gqn (1, 0, 0) = ⟨#[102, 105, 108, 108]⟩ from rfl)
  have kin := Lib.hid (show gqn (2, 0, 0) = ⟨#[105, 110]⟩ from rfl)
  have hal : Below w.heap.size w (w.alloc (Obj.cells #[.slice none 0 0, .slice none 0 0, .slice none 0 0, .int .i64 0] 30)) := bl_al (bl_refl _) _
  have halH := Lib.hid hal
  have bS0 := Lib.hid (BxT.made w [.slice none 0 0, .slice none 0 0, .slice none 0 0, .int .i64 0] 30)
  clear p3 hd hst hm hq hal
  go_enter Tryz.func10, Tryz.ntmps10
  go_wp2_with fail
  refine (lParts_any s _ h1 h2).mono ?_
  rw [hdH.out, hstH.out]
  rintro e _ ⟨rfl, rfl⟩
  go_wp2_with fail
  refine (lPower_any d _ (by omega)).mono ?_
  rw [hqH.out]
  rintro e _ ⟨rfl, rfl⟩
  go_wp2_with fail
  refine (lDigits_any d m _ ⟨p1, p2⟩ hm32).mono ?_
  rintro e w1 ⟨gd, rfl, hgd, hdig, hb1⟩
  have hdig1 := Lib.hid hdig
  have lgd := hdig.lt
  have hbw1 := Lib.hid (halH.out.trans (hb1.mono (by simp)))
  have bS1 := Lib.hid (bS0.out.below hb1)
  have hs1 := hb1.size
  simp at hs1 hgd
  clear hdig hb1 bS0 halH
  go_wp2_with fail
  obtain ⟨x, hxe⟩ : ∃ x, w1.heap.size = x := ⟨_, rfl⟩
  have hx0 : Hid (Sk (w1.alloc (.cells #[.slice none 0 0, .slice none 0 0] 60)) x ([], [])) := Lib.hid (by rw [← hxe]; exact Sk.made w1)
  obtain ⟨w2, hw2⟩ : ∃ w2, w2 = w1.alloc (.cells #[.slice none 0 0, .slice none 0 0] 60) := ⟨_, rfl⟩
  have hb12 : Hid (Below w1.heap.size w1 w2) := Lib.hid (by rw [hw2]; exact bl_al (bl_refl _) _)
  rw [← hw2] at hx0 ⊢
  simp only [hxe]
  clear hw2
  refine (sglue_q (cs := []) (ts := []) (c := (1, 0, 0)) hx0.out kfill.out (by decide) (by simp) (in_gV (by simp)) (by simp) (by decide)).mono ?_
  rintro e w3 ⟨⟨kk, rfl⟩, hx3, hF3, hB3⟩
  have hx3H := Lib.hid hx3
  have hB3H := Lib.hid hB3
  clear hx3 hF3 hB3 hx0
  go_wp2_with fail
  refine (sglue_q (cs := [(1, 0, 0)]) (ts := []) (c := (2, 0, 0)) hx3H.out kin.out (by decide) (fun d hd => in_gV (by simp at hd; subst hd; simp)) (in_gV (by simp)) (by simp) (by decide)).mono ?_
  rintro e w4 ⟨⟨kk2, rfl⟩, hx4, hF4, hB4⟩
  have hx4H := Lib.hid hx4
  have hB4H := Lib.hid (hB3H.out.trans hB4)
  clear hx4 hF4 hB4 hx3H hB3H
  go_wp2_with fail
  refine (zigzag_any x 0 c0Q [] ⟨#[110]⟩ false _ (by decide) rfl rfl (fun d hd => gQ2_V d (List.mem_append_left _ (List.mem_append_left _ hd))) (by decide) (by decide) (by decide) hx4H.out).mono ?_
  rintro e w5 ⟨rfl, hx5, hB5⟩
  have hx5H := Lib.hid hx5
  have hB5H := Lib.hid (hB4H.out.trans hB5)
  clear hx5 hB5 hx4H hB4H
  go_wp2_with fail
  refine (zigzag_any x 1 gQ1 (cntT (glQ gQ1) 0 11) ⟨#[101]⟩ true _ (by decide) rfl rfl (fun d hd => gQ2_V d (List.mem_append_left _ hd)) (fun d hd => by have := mem_gQ1 hd; omega) (by decide) (by rw [cntT_len]; decide) hx5H.out).mono ?_
  rintro e w6 ⟨rfl, hx6, hB6⟩
  have hx : Hid (Sk w6 x (glQ gQ2, tQ2)) := Lib.hid hx6
  have hbw := Lib.hid (hB5H.out.trans hB6)
  clear hx6 hB6 hx5H hB5H
  go_wp2_with fail
  go_loopg [7] n1 (fun g i wr => ∃ (k : Nat), k + g = n1 ∧ i = .int .i64 (k : Int) ∧ Hid (Sk wr x (glQ (gQ2 ++ cS 3 k), tQ2)) ∧ Hid (Below x w2 wr))
  case atStart => exact ⟨0, by omega, rfl, (by simp only [cS, List.range_zero, List.map_nil, List.append_nil]; exact hx), hbw⟩
  case round =>
    clear hx hbw
    obtain ⟨k, hk, rfl, hx, hbw⟩ := hrel
    have hltr := hx.out.lt
    by_cases hkn : k < n1
    · have hkI : (k : Int) ≤ (d : Int) := by omega
      obtain ⟨td, htd⟩ : ∃ t, decN k = t := ⟨_, rfl⟩
      have ztd : td.size ≤ 3 := by rw [← htd]; exact decN_size (by omega)
      obtain ⟨nm, hnm⟩ : ∃ t, (⟨#[115, 110]⟩ : ByteArray) ++ td = t := ⟨_, rfl⟩
      have hcat := catT hnm (by have : (⟨#[115, 110]⟩ : ByteArray).size ≤ 2 := (by decide); omega)
      have hgnH := Lib.hid (show gqn (3, k, 0) = nm by rw [← hnm, ← htd]; rfl)
      have htdH := Lib.hid htd
      clear hnm htd
      go_wp2_with fail
      refine (lDecimal_n (u := k) _ (by omega) htdH.out).mono ?_
      rintro e w5 ⟨rfl, hb5⟩
      have hb5H := Lib.hid hb5
      clear hb5
      go_wp2_with fail
      refine (sglue_q (c := (3, k, 0)) (s := 2) (hx.out.below hb5H.out) hgnH.out (by simp [gsq]) (s3_V (by omega)) (in_gV (by simp <;> omega)) s3_no (by rw [s3_len]; omega)).mono ?_
      rintro e w6 ⟨⟨kk, rfl⟩, hM6, hF6, hB6⟩
      have hM7 := Lib.hid hM6
      have bw7 := Lib.hid ((hbw.out.trans (hb5H.out.mono (show x ≤ wr.heap.size by omega))).trans hB6)
      clear hM6 hF6 hB6 hb5H hx hbw
      go_wp2
      go_roundg (n1 - (k + 1))
      case measure => omega
      case rel => exact ⟨k + 1, by omega, by go_num, (by rw [show cS 3 (k + 1) = cS 3 k ++ [(3, k, 0)] from cS_succ _ _, ← List.append_assoc]; exact hM7), bw7⟩
    · obtain rfl : n1 = k := by omega
      have hkI : ¬ (n1 : Int) ≤ (d : Int) := by omega
      go_wp2_with fail
      skip
      rw [← hn1H.out] at hx
      go_loopg [8] n1 (fun g i wr => ∃ (k : Nat), k + g = n1 ∧ i = .int .i64 (k : Int) ∧ Hid (Sk wr x (glQ (gQ2 ++ cS 3 (d + 1) ++ cS 4 k), tQ2)) ∧ Hid (Below x w2 wr))
      case atStart => exact ⟨0, by omega, rfl, (by simp only [cS, List.range_zero, List.map_nil, List.append_nil]; exact hx), hbw⟩
      case round =>
        clear hx hbw
        obtain ⟨k, hk, rfl, hx, hbw⟩ := hrel
        have hltr := hx.out.lt
        by_cases hkn : k < n1
        · have hkI : (k : Int) ≤ (d : Int) := by omega
          obtain ⟨td, htd⟩ : ∃ t, decN k = t := ⟨_, rfl⟩
          have ztd : td.size ≤ 3 := by rw [← htd]; exact decN_size (by omega)
          obtain ⟨nm, hnm⟩ : ∃ t, (⟨#[115, 101]⟩ : ByteArray) ++ td = t := ⟨_, rfl⟩
          have hcat := catT hnm (by have : (⟨#[115, 101]⟩ : ByteArray).size ≤ 2 := (by decide); omega)
          have hgnH := Lib.hid (show gqn (4, k, 0) = nm by rw [← hnm, ← htd]; rfl)
          have htdH := Lib.hid htd
          clear hnm htd
          go_wp2_with fail
          refine (lDecimal_n (u := k) _ (by omega) htdH.out).mono ?_
          rintro e w5 ⟨rfl, hb5⟩
          have hb5H := Lib.hid hb5
          clear hb5
          go_wp2_with fail
          refine (sglue_q (c := (4, k, 0)) (s := 2) (hx.out.below hb5H.out) hgnH.out (by simp [gsq]) (gQ3_V (d := 0) (by omega) (by omega)) (in_gV (by simp <;> omega)) s4_no (by rw [gQ3_len]; omega)).mono ?_
          rintro e w6 ⟨⟨kk, rfl⟩, hM6, hF6, hB6⟩
          have hM7 := Lib.hid hM6
          have bw7 := Lib.hid ((hbw.out.trans (hb5H.out.mono (show x ≤ wr.heap.size by omega))).trans hB6)
          clear hM6 hF6 hB6 hb5H hx hbw
          go_wp2
          go_roundg (n1 - (k + 1))
          case measure => omega
          case rel => exact ⟨k + 1, by omega, by go_num, (by rw [show cS 4 (k + 1) = cS 4 k ++ [(4, k, 0)] from cS_succ _ _, ← List.append_assoc]; exact hM7), bw7⟩
        · obtain rfl : n1 = k := by omega
          have hkI : ¬ (n1 : Int) ≤ (d : Int) := by omega
          go_wp2_with fail
          skip
          have hbz := hbw.out.size
          obtain ⟨gs, hgs⟩ : ∃ gs, glQ (gQ3 d) = gs := ⟨_, rfl⟩
          replace hx : Hid (Sk wr x (gs, tQ2)) := Lib.hid (by have h := hx.out; rw [← hn1H.out] at h; rw [← hgs]; exact h)
          have hgl : gs.length ≤ 1000 := by rw [← hgs, glQ_len]; unfold gQ3; rw [gQ3_len]; omega
          have hem := Lib.hid (show numG gs ⟨#[]⟩ = 0 by rw [← hgs]; exact (num_dashQ (gQ3_V (d := d) (by omega) (by omega))).2)
          have knup := Lib.hid (show gqn (0, 0, 4) = ⟨#[110, 117, 112]⟩ by decide +kernel)
          have keup := Lib.hid (show gqn (0, 1, 4) = ⟨#[101, 117, 112]⟩ by decide +kernel)
          have knx := Lib.hid (show gqn (0, 0, 8) = ⟨#[110, 110, 101, 120, 116]⟩ by decide +kernel)
          have kex := Lib.hid (show gqn (0, 1, 8) = ⟨#[101, 110, 101, 120, 116]⟩ by decide +kernel)
          have hn1I := Lib.hid (show (n1 : Int) = (d : Int) + 1 by omega)
          have hgsH := Lib.hid hgs
          obtain ⟨ts, hts⟩ : ∃ ts, tQ3 d = ts := ⟨_, rfl⟩
          have htl : ts.length = 24 := by rw [← hts]; exact tQ3_len d
          have hnt := Lib.hid (show NmQ ts (fun c => (c.1 = 0 ∧ c.2.1 < 2 ∧ c.2.2 < 11) ∨ ((c.1 = 1 ∨ c.1 = 2) ∧ c.2.1 = 0 ∧ c.2.2 = 0)) by rw [← hts]; exact nm_tQ3 d)
          have hts2 := Lib.hid (show tQ2 ++ [tOut gs] ++ [tInn gs] = ts by rw [← hts, ← hgs]; rfl)
          have htsH := Lib.hid hts
          have hn1a : n1 ≤ d + 1 := by omega
          have hn1c : d + 1 ≤ n1 := by omega
          clear hgs hts hn1
          refine (stileX_q (X := fun _ => False) (gs := gs) (ts := tQ2) (c := (1, 0, 0)) (L := 22) hx.out (fun g e => e.elim) rfl (sdQ_some kfill.out) (sdQ_some kfill.out) (sdQ_some kfill.out) (sdQ_some kfill.out) (fr_out rfl) hgl tQ2_len (by omega)).mono ?_
          rintro e wa ⟨rfl, hx6, hF6, hB6⟩
          replace hx := Lib.hid hx6
          replace hbw := Lib.hid (hbw.out.trans hB6)
          clear hx6 hF6 hB6
          go_wp2_with fail
          refine (stileX_q (X := fun _ => False) (gs := gs) (ts := tQ2 ++ [tOut gs]) (c := (2, 0, 0)) (L := 23) hx.out (fun g e => e.elim) rfl (sdQ_some kin.out) (sdQ_some kin.out) (sdQ_some kin.out) (sdQ_some kin.out) (fr_inn rfl) hgl (by rw [List.length_append, tQ2_len]; rfl) (by omega)).mono ?_
          rintro e wb ⟨rfl, hx6, hF6, hB6⟩
          replace hx := Lib.hid hx6
          replace hbw := Lib.hid (hbw.out.trans hB6)
          clear hx6 hF6 hB6
          replace hx : Hid (Sk wb x (gs, ts)) := Lib.hid (by rw [← hts2.out]; exact hx.out)
          go_wp2_with fail
          refine (stileX_q (X := fun _ => False) (gs := gs) (ts := ts) (c := (3, 0, 0)) (L := 24) hx.out (fun g e => e.elim) rfl (sdQ_some knup.out) (sdQ_some s0_nm.1) (sdQ_some kin.out) (sdQ_none hem.out) (fr_nl hnt.out rfl) hgl htl (by omega)).mono ?_
          rintro e wq ⟨rfl, hx6, hF6, hB6⟩
          replace hx := Lib.hid hx6
          replace hbw := Lib.hid (hbw.out.trans hB6)
          clear hx6 hF6 hB6
          have hxq : x < wq.heap.size := hx.out.lt
          have hal : Below wq.heap.size wq (wq.alloc (Obj.cells #[.int .i64 24] 2)) := bl_al (bl_refl _) _
          have hMX : Hid (SkX (wq.alloc (Obj.cells #[.int .i64 24] 2)) x (gs, ts ++ [tNl gs]) (fun q => (Value.slice (some ⟨wq.heap.size, 0, none⟩) (0 + 1) 1).ownBlock = some q)) := Lib.hid ((hx.out.clear_ (fun g e => .inr (by
            have e2 : wq.heap.size = g := by injection e
            omega))).below hal)
          have hrow0 : Hid ((wq.alloc (Obj.cells #[.int .i64 24] 2)).ownsRow (x + 1) 2 1 (.slice (some ⟨wq.heap.size, 0, none⟩) (0 + 1) 1) (0 + 1) (rowQ 24 26 0)) := Lib.hid (World.ownsRow_lit (base := x + 1) (e := 2) (size := 1) wq #[.int .i64 24] 1 (by omega) (by decide) rfl)
          have hbwX := Lib.hid (hbw.out.trans (hal.mono (show x ≤ wq.heap.size by omega)))
          clear hal hx hbw
          go_wp2_with fail
          refine (stileX_q (X := fun q => (Value.slice (some ⟨wq.heap.size, 0, none⟩) (0 + 1) 1).ownBlock = some q) (gs := gs) (ts := ts ++ [tNl gs]) (c := (4, 0, 0)) (L := 25) hMX.out (fun g e => (hrow0.out.lt g e).2) rfl (sdQ_some s0_nm.2) (sdQ_some keup.out) (sdQ_none hem.out) (sdQ_some kin.out) (fr_el hnt.out rfl) hgl (by rw [List.length_append, htl]; rfl) (by omega)).mono ?_
          rintro e wy ⟨rfl, hx6, hF6, hB6⟩
          have hT0 : Hid (Two2 (wy.alloc (Obj.cells #[.int .i64 25] 2)) x (gs, ts ++ endQ gs d m 0 0) (some ⟨wq.heap.size, 0, none⟩) (some ⟨wy.heap.size, 0, none⟩) 1 1 26 (26 + d) 0 0) := Lib.hid (Two2.start (by have h := hx6; rw [List.append_assoc] at h; exact h) (ownsRow_far hrow0.out hF6 (by decide)) (SkX.lt hx6))
          have hbT : Hid (Below x w2 (wy.alloc (Obj.cells #[.int .i64 25] 2))) := Lib.hid ((hbwX.out.trans hB6).trans ((bl_al (bl_refl wy) _).mono (show x ≤ wy.heap.size by have := SkX.lt hx6; omega)))
          have hdig2 := Lib.hid (hdig1.out.of_block (hb12.out.block gd lgd))
          have hgdx : gd < x := by omega
          clear hx6 hF6 hB6 hMX hrow0 hbwX
          go_wp2_with fail
          obtain ⟨ga, hga⟩ : ∃ ga, wq.heap.size = ga := ⟨_, rfl⟩
          obtain ⟨gb, hgb⟩ : ∃ gb, wy.heap.size = gb := ⟨_, rfl⟩
          simp only [hga, hgb] at hT0 ⊢
          obtain ⟨w7, hw7⟩ : ∃ z, z = wy.alloc (Obj.cells #[.int .i64 25] 2) := ⟨_, rfl⟩
          rw [← hw7] at hT0 hbT ⊢
          clear hw7 hga hgb hxq
          go_loopg [11, 9] d (fun gk i v wr => ∃ (k : Nat) (A : Option Addr) (ca : Nat), k + gk = d ∧ i = .int .i64 (k : Int) ∧ v = .slice A (k + 1) ca ∧ Hid (Two2 wr x (gs, ts ++ endQ gs d m k 0) A (some ⟨gb, 0, none⟩) ca 1 26 (26 + d) k 0) ∧ Hid (Below x w2 wr))
          case atStart => exact ⟨0, some ⟨ga, 0, none⟩, 1, by omega, rfl, rfl, hT0, hbT⟩
          case round =>
            clear hT0 hbT
            obtain ⟨k, A, ca, hk, rfl, rfl, hT, hbw⟩ := hrel
            by_cases hkn : k < d
            · have hkI : (k : Int) < (d : Int) := by omega
              have hdr := hdig2.out.of_block (hbw.out.block gd hgdx)
              have e0 := hdr.cell (i := k) (by omega)
              have lgd := hdr.lt
              clear hdr
              obtain ⟨bt, hbt⟩ : ∃ bt, bitN d m k = bt := ⟨_, rfl⟩
              have hbt2 : bt < 2 := by rw [← hbt]; exact bitN_lt _ _ _
              rw [hbt] at e0
              obtain ⟨k1, hk1⟩ : ∃ k1 : Nat, k + 1 = k1 := ⟨_, rfl⟩
              have hwk : IntKind.i64.wrap ((k : Int) + 1) = (k1 : Int) := by rw [wrapT (by omega) (by omega)]; omega
              have hk1b : k1 < 10 := by omega
              obtain ⟨dk, hdk⟩ : ∃ s, decN k = s := ⟨_, rfl⟩
              have zdk : dk.size ≤ 3 := by rw [← hdk]; exact decN_size (by omega)
              have hdkH := Lib.hid hdk
              obtain ⟨dk1, hdk1⟩ : ∃ s, decN k1 = s := ⟨_, rfl⟩
              have zdk1 : dk1.size ≤ 3 := by rw [← hdk1]; exact decN_size (by omega)
              have hdk1H := Lib.hid hdk1
              obtain ⟨db, hdb⟩ : ∃ s, decN bt = s := ⟨_, rfl⟩
              have zdb : db.size ≤ 3 := by rw [← hdb]; exact decN_size (by omega)
              have hdbH := Lib.hid hdb
              obtain ⟨nm, hnm⟩ : ∃ s : ByteArray, (⟨#[110, 115, 116, 97, 114, 116]⟩ : ByteArray) ++ dk = s := ⟨_, rfl⟩
              have qnm := catT hnm (by have : (⟨#[110, 115, 116, 97, 114, 116]⟩ : ByteArray).size ≤ 100 := (by decide); omega)
              obtain ⟨nv, hnv⟩ : ∃ s : ByteArray, (⟨#[110, 118]⟩ : ByteArray) ++ db = s := ⟨_, rfl⟩
              have qnv := catT hnv (by have : (⟨#[110, 118]⟩ : ByteArray).size ≤ 100 := (by decide); omega)
              obtain ⟨ns1, hns1⟩ : ∃ s : ByteArray, (⟨#[115, 110]⟩ : ByteArray) ++ dk1 = s := ⟨_, rfl⟩
              have qns1 := catT hns1 (by have : (⟨#[115, 110]⟩ : ByteArray).size ≤ 100 := (by decide); omega)
              obtain ⟨ns0, hns0⟩ : ∃ s : ByteArray, (⟨#[115, 110]⟩ : ByteArray) ++ dk = s := ⟨_, rfl⟩
              have qns0 := catT hns0 (by have : (⟨#[115, 110]⟩ : ByteArray).size ≤ 100 := (by decide); omega)
              have kT := Lib.hid (show tqn (5, k, 0) = nm by rw [← hnm, ← hdk]; rfl)
              have kV := Lib.hid (show gqn (0, 0, bt) = nv by rw [← hnv, ← hdb]; first | exact (nm_bit hbt2).1.symm | exact (nm_bit hbt2).2.symm)
              have k1H := Lib.hid (show gqn (3, k + 1, 0) = ns1 by rw [← hns1, ← hdk1, ← hk1]; rfl)
              have k0H := Lib.hid (show gqn (3, k, 0) = ns0 by rw [← hns0, ← hdk]; rfl)
              have hbtH := Lib.hid hbt
              have hk1H := Lib.hid hk1
              obtain ⟨tk, htk⟩ : ∃ tk : Nat, 26 + k = tk := ⟨_, rfl⟩
              have htkb : tk ≤ 100 := by omega
              have hL := Lib.hid (show (ts ++ endQ gs d m k 0).length = tk by rw [List.length_append, endQ_len, htl]; omega)
              have htkH := Lib.hid htk
              have hfr := Lib.hid ((nm_end (gs := gs) (d := d) (m := m) k 0 hnt.out).fresh (d := (5, k, 0)) (fun c h => LQ_ok (by omega) (by omega) h (.inl ⟨rfl, Nat.le_refl _⟩)) (in_tV (by simp <;> omega)) kT.out)
              have hxw := hT.out.mr.lt
              have jb : Below wr.heap.size wr wr.drew := bl_dr (bl_refl _)
              clear hbt hk1 hdk hdk1 hdb hnm hnv hns1 hns0 htk
              go_wp2_with fail
              refine wp_region_ord [(0, .p), (1, .q), (2, .q), (5, .q), (6, .q), (7, .q), (8, .q), (11, .q), (12, .q), (15, .q), (3, .g), (4, .q), (9, .g), (10, .q), (13, .g), (14, .q), (16, .g), (17, .q), (18, .b), (19, .g), (20, .b), (21, .q)] (by kernel_rfl) (by kernel_rfl) ?_
              simp only [pick, List.filterMap_cons, List.filterMap_nil, List.getElem?_toArray, List.getElem?_cons_zero, List.getElem?_cons_succ, Option.map_some]
              repeat (first | ((with_reducible refine wpD_p (fun K hK => ?_)); go_simp; refine hK _ ?_; clear hK K) | ((with_reducible refine wpD_q (fun K hK => ?_)); go_simp; (first | refine hK _ ?_ | (go_bits; refine hK _ ?_) | (go_bits; go_simp; refine hK _ ?_)); clear hK K))
              with_reducible refine wpD_g (fun K hK => ?_)
              go_simp
              refine (lDecimal_n (u := k) _ (by omega) hdkH.out).mono ?_
              rintro e wa ⟨rfl, hb⟩
              refine ⟨_, rfl, hb, hK _ _ ?_⟩
              clear hK K
              replace jb := jb.trans (hb.mono jb.size)
              clear hb
              repeat (first | ((with_reducible refine wpD_p (fun K hK => ?_)); go_simp; refine hK _ ?_; clear hK K) | ((with_reducible refine wpD_q (fun K hK => ?_)); go_simp; (first | refine hK _ ?_ | (go_bits; refine hK _ ?_) | (go_bits; go_simp; refine hK _ ?_)); clear hK K))
              with_reducible refine wpD_g (fun K hK => ?_)
              go_simp
              refine (lDecimal_n (u := bt) _ (by omega) hdbH.out).mono ?_
              rintro e wb ⟨rfl, hb⟩
              refine ⟨_, rfl, hb, hK _ _ ?_⟩
              clear hK K
              replace jb := jb.trans (hb.mono jb.size)
              clear hb
              repeat (first | ((with_reducible refine wpD_p (fun K hK => ?_)); go_simp; refine hK _ ?_; clear hK K) | ((with_reducible refine wpD_q (fun K hK => ?_)); go_simp; (first | refine hK _ ?_ | (go_bits; refine hK _ ?_) | (go_bits; go_simp; refine hK _ ?_)); clear hK K))
              with_reducible refine wpD_g (fun K hK => ?_)
              go_simp
              refine (lDecimal_n (u := k1) _ (by omega) hdk1H.out).mono ?_
              rintro e wc ⟨rfl, hb⟩
              refine ⟨_, rfl, hb, hK _ _ ?_⟩
              clear hK K
              replace jb := jb.trans (hb.mono jb.size)
              clear hb
              repeat (first | ((with_reducible refine wpD_p (fun K hK => ?_)); go_simp; refine hK _ ?_; clear hK K) | ((with_reducible refine wpD_q (fun K hK => ?_)); go_simp; (first | refine hK _ ?_ | (go_bits; refine hK _ ?_) | (go_bits; go_simp; refine hK _ ?_)); clear hK K))
              with_reducible refine wpD_g (fun K hK => ?_)
              go_simp
              refine (lDecimal_n (u := k) _ (by omega) hdkH.out).mono ?_
              rintro e wd ⟨rfl, hb⟩
              refine ⟨_, rfl, hb, hK _ _ ?_⟩
              clear hK K
              replace jb := jb.trans (hb.mono jb.size)
              clear hb
              repeat (first | ((with_reducible refine wpD_p (fun K hK => ?_)); go_simp; refine hK _ ?_; clear hK K) | ((with_reducible refine wpD_q (fun K hK => ?_)); go_simp; (first | refine hK _ ?_ | (go_bits; refine hK _ ?_) | (go_bits; go_simp; refine hK _ ?_)); clear hK K))
              with_reducible refine wpD_b (fun K hK => ?_)
              go_simp
              refine (stileX_q (gs := gs) (ts := ts ++ endQ gs d m k 0) (c := (5, k, 0)) (L := tk) (hT.out.mr.below jb) (fun g e => Nat.lt_of_lt_of_le (hT.out.hX g e) jb.size) kT.out (sdQ_some kV.out) (sdQ_some k1H.out) (sdQ_some kin.out) (sdQ_some k0H.out) hfr.out hgl hL.out (by omega)).mono ?_
              rintro e w6 ⟨rfl, hM6, hF6, hB6⟩
              refine ⟨_, rfl, hK _ _ ?_⟩
              clear hK K
              have hT6 : Two2 w6 x (gs, ts ++ endQ gs d m (k + 1) 0) A (some ⟨gb, 0, none⟩) ca 1 26 (26 + d) k 0 := (hT.out.below jb).tile (by rw [endQ_n, ← List.append_assoc]; unfold tNs; rw [hbtH.out]; exact hM6) hF6
              repeat (first | ((with_reducible refine wpD_p (fun K hK => ?_)); go_simp; refine hK _ ?_; clear hK K) | ((with_reducible refine wpD_q (fun K hK => ?_)); go_simp; (first | refine hK _ ?_ | (go_bits; refine hK _ ?_) | (go_bits; go_simp; refine hK _ ?_)); clear hK K))
              with_reducible refine wpD_g (fun K hK => ?_)
              go_simp
              refine ⟨Grew.of_alloc _, hK _ _ ?_⟩
              clear hK K
              have hal : Below w6.heap.size w6 (w6.alloc (Obj.cells #[.int .i64 (tk : Int)] 2)) := bl_al (bl_refl _) _
              have hT7 := hT6.below hal
              have hxw6 : x ≤ w6.heap.size := by have := hB6.size; have := jb.size; omega
              refine wpD_append_atN rfl _ _ 55 rfl (x + 1) 2 i1 (.int .i64 0) 1 8 Tryz.underlying55 hi' hz0' hz1' hz2' rfl (by decide) (.slice A (k + 1) ca) (k + 1) (rowQ 24 26 k) (by go_simp) hT7.ra ⟨w6.heap.size, 0, none⟩ 1 1 [.int .i64 (tk : Int)] (by go_simp) rfl (cell_one_newT _ _ _) (fun x hx => by simp at hx; subst hx; rfl) (by unfold maxLen; omega) (by omega) (by simp; omega) ?_
              intro v9 w9 hown9 hgrow9 hat9
              obtain ⟨A9, c9, rfl⟩ := ownsRow_form hown9
              have bw9 := Lib.hid ((((hbw.out.trans (jb.mono (show x ≤ wr.heap.size by omega))).trans hB6).trans (hal.mono (show x ≤ w6.heap.size by have := hB6.size; have := jb.size; omega))).grown hgrow9 (by have := hal.size; have := hB6.size; have := jb.size; omega) (fun g e => by have := (hT7.ra.lt g e).1; omega))
              rw [← htkH.out] at hown9
              have hT9 := Lib.hid (hT7.growA hown9 hgrow9 hat9)
              clear hown9 hgrow9 hat9 hT7 hT6 hal hM6 hF6 hB6 jb hT hbw e0 lgd hfr hL htkH hxw
              repeat (first | ((with_reducible refine wpD_p (fun K hK => ?_)); go_simp; refine hK _ ?_; clear hK K) | ((with_reducible refine wpD_q (fun K hK => ?_)); go_simp; (first | refine hK _ ?_ | (go_bits; refine hK _ ?_) | (go_bits; go_simp; refine hK _ ?_)); clear hK K))
              with_reducible refine wpD_nil ?_
              go_wp2
              go_roundg (d - (k + 1))
              case measure => omega
              case rel => exact ⟨k + 1, A9, c9, by omega, (by have h9 := hk1H.out; rw [← h9]), rfl, hT9, bw9⟩
            · obtain rfl : d = k := by omega
              go_wp2_with fail
              go_loopg [12, 10] d (fun gk i v wr => ∃ (k : Nat) (B : Option Addr) (cb : Nat), k + gk = d ∧ i = .int .i64 (k : Int) ∧ v = .slice B (k + 1) cb ∧ Hid (Two2 wr x (gs, ts ++ endQ gs d m d k) A B ca cb 26 (26 + d) d k) ∧ Hid (Below x w2 wr))
              case atStart => exact ⟨0, some ⟨gb, 0, none⟩, 1, by omega, rfl, rfl, hT, hbw⟩
              case round =>
                clear hT hbw
                obtain ⟨k, B, cb, hk, rfl, rfl, hT, hbw⟩ := hrel
                by_cases hkn : k < d
                · have hkI : (k : Int) < (d : Int) := by omega
                  have hdr := hdig2.out.of_block (hbw.out.block gd hgdx)
                  have e0 := hdr.cell (i := k) (by omega)
                  have lgd := hdr.lt
                  clear hdr
                  obtain ⟨bt, hbt⟩ : ∃ bt, bitN d m k = bt := ⟨_, rfl⟩
                  have hbt2 : bt < 2 := by rw [← hbt]; exact bitN_lt _ _ _
                  rw [hbt] at e0
                  obtain ⟨k1, hk1⟩ : ∃ k1 : Nat, k + 1 = k1 := ⟨_, rfl⟩
                  have hwk : IntKind.i64.wrap ((k : Int) + 1) = (k1 : Int) := by rw [wrapT (by omega) (by omega)]; omega
                  have hk1b : k1 < 10 := by omega
                  obtain ⟨dk, hdk⟩ : ∃ s, decN k = s := ⟨_, rfl⟩
                  have zdk : dk.size ≤ 3 := by rw [← hdk]; exact decN_size (by omega)
                  have hdkH := Lib.hid hdk
                  obtain ⟨dk1, hdk1⟩ : ∃ s, decN k1 = s := ⟨_, rfl⟩
                  have zdk1 : dk1.size ≤ 3 := by rw [← hdk1]; exact decN_size (by omega)
                  have hdk1H := Lib.hid hdk1
                  obtain ⟨db, hdb⟩ : ∃ s, decN bt = s := ⟨_, rfl⟩
                  have zdb : db.size ≤ 3 := by rw [← hdb]; exact decN_size (by omega)
                  have hdbH := Lib.hid hdb
                  obtain ⟨nm, hnm⟩ : ∃ s : ByteArray, (⟨#[101, 115, 116, 97, 114, 116]⟩ : ByteArray) ++ dk = s := ⟨_, rfl⟩
                  have qnm := catT hnm (by have : (⟨#[101, 115, 116, 97, 114, 116]⟩ : ByteArray).size ≤ 100 := (by decide); omega)
                  obtain ⟨nv, hnv⟩ : ∃ s : ByteArray, (⟨#[101, 118]⟩ : ByteArray) ++ db = s := ⟨_, rfl⟩
                  have qnv := catT hnv (by have : (⟨#[101, 118]⟩ : ByteArray).size ≤ 100 := (by decide); omega)
                  obtain ⟨ns1, hns1⟩ : ∃ s : ByteArray, (⟨#[115, 101]⟩ : ByteArray) ++ dk1 = s := ⟨_, rfl⟩
                  have qns1 := catT hns1 (by have : (⟨#[115, 101]⟩ : ByteArray).size ≤ 100 := (by decide); omega)
                  obtain ⟨ns0, hns0⟩ : ∃ s : ByteArray, (⟨#[115, 101]⟩ : ByteArray) ++ dk = s := ⟨_, rfl⟩
                  have qns0 := catT hns0 (by have : (⟨#[115, 101]⟩ : ByteArray).size ≤ 100 := (by decide); omega)
                  have kT := Lib.hid (show tqn (6, k, 0) = nm by rw [← hnm, ← hdk]; rfl)
                  have kV := Lib.hid (show gqn (0, 1, bt) = nv by rw [← hnv, ← hdb]; first | exact (nm_bit hbt2).1.symm | exact (nm_bit hbt2).2.symm)
                  have k1H := Lib.hid (show gqn (4, k + 1, 0) = ns1 by rw [← hns1, ← hdk1, ← hk1]; rfl)
                  have k0H := Lib.hid (show gqn (4, k, 0) = ns0 by rw [← hns0, ← hdk]; rfl)
                  have hbtH := Lib.hid hbt
                  have hk1H := Lib.hid hk1
                  obtain ⟨tk, htk⟩ : ∃ tk : Nat, 26 + d + k = tk := ⟨_, rfl⟩
                  have htkb : tk ≤ 100 := by omega
                  have hL := Lib.hid (show (ts ++ endQ gs d m d k).length = tk by rw [List.length_append, endQ_len, htl]; omega)
                  have htkH := Lib.hid htk
                  have hfr := Lib.hid ((nm_end (gs := gs) (d := d) (m := m) d k hnt.out).fresh (d := (6, k, 0)) (fun c h => LQ_ok (by omega) (by omega) h (.inr (.inl ⟨rfl, Nat.le_refl _⟩))) (in_tV (by simp <;> omega)) kT.out)
                  have hxw := hT.out.mr.lt
                  have jb : Below wr.heap.size wr wr.drew := bl_dr (bl_refl _)
                  clear hbt hk1 hdk hdk1 hdb hnm hnv hns1 hns0 htk
                  go_wp2_with fail
                  refine wp_region_ord [(0, .p), (1, .q), (2, .q), (5, .q), (6, .q), (9, .q), (10, .q), (11, .q), (12, .q), (15, .q), (3, .g), (4, .q), (7, .g), (8, .q), (13, .g), (14, .q), (16, .g), (17, .q), (18, .b), (19, .g), (20, .b), (21, .q)] (by kernel_rfl) (by kernel_rfl) ?_
                  simp only [pick, List.filterMap_cons, List.filterMap_nil, List.getElem?_toArray, List.getElem?_cons_zero, List.getElem?_cons_succ, Option.map_some]
                  repeat (first | ((with_reducible refine wpD_p (fun K hK => ?_)); go_simp; refine hK _ ?_; clear hK K) | ((with_reducible refine wpD_q (fun K hK => ?_)); go_simp; (first | refine hK _ ?_ | (go_bits; refine hK _ ?_) | (go_bits; go_simp; refine hK _ ?_)); clear hK K))
                  with_reducible refine wpD_g (fun K hK => ?_)
                  go_simp
                  refine (lDecimal_n (u := k) _ (by omega) hdkH.out).mono ?_
                  rintro e wa ⟨rfl, hb⟩
                  refine ⟨_, rfl, hb, hK _ _ ?_⟩
                  clear hK K
                  replace jb := jb.trans (hb.mono jb.size)
                  clear hb
                  repeat (first | ((with_reducible refine wpD_p (fun K hK => ?_)); go_simp; refine hK _ ?_; clear hK K) | ((with_reducible refine wpD_q (fun K hK => ?_)); go_simp; (first | refine hK _ ?_ | (go_bits; refine hK _ ?_) | (go_bits; go_simp; refine hK _ ?_)); clear hK K))
                  with_reducible refine wpD_g (fun K hK => ?_)
                  go_simp
                  refine (lDecimal_n (u := k1) _ (by omega) hdk1H.out).mono ?_
                  rintro e wb ⟨rfl, hb⟩
                  refine ⟨_, rfl, hb, hK _ _ ?_⟩
                  clear hK K
                  replace jb := jb.trans (hb.mono jb.size)
                  clear hb
                  repeat (first | ((with_reducible refine wpD_p (fun K hK => ?_)); go_simp; refine hK _ ?_; clear hK K) | ((with_reducible refine wpD_q (fun K hK => ?_)); go_simp; (first | refine hK _ ?_ | (go_bits; refine hK _ ?_) | (go_bits; go_simp; refine hK _ ?_)); clear hK K))
                  with_reducible refine wpD_g (fun K hK => ?_)
                  go_simp
                  refine (lDecimal_n (u := bt) _ (by omega) hdbH.out).mono ?_
                  rintro e wc ⟨rfl, hb⟩
                  refine ⟨_, rfl, hb, hK _ _ ?_⟩
                  clear hK K
                  replace jb := jb.trans (hb.mono jb.size)
                  clear hb
                  repeat (first | ((with_reducible refine wpD_p (fun K hK => ?_)); go_simp; refine hK _ ?_; clear hK K) | ((with_reducible refine wpD_q (fun K hK => ?_)); go_simp; (first | refine hK _ ?_ | (go_bits; refine hK _ ?_) | (go_bits; go_simp; refine hK _ ?_)); clear hK K))
                  with_reducible refine wpD_g (fun K hK => ?_)
                  go_simp
                  refine (lDecimal_n (u := k) _ (by omega) hdkH.out).mono ?_
                  rintro e wd ⟨rfl, hb⟩
                  refine ⟨_, rfl, hb, hK _ _ ?_⟩
                  clear hK K
                  replace jb := jb.trans (hb.mono jb.size)
                  clear hb
                  repeat (first | ((with_reducible refine wpD_p (fun K hK => ?_)); go_simp; refine hK _ ?_; clear hK K) | ((with_reducible refine wpD_q (fun K hK => ?_)); go_simp; (first | refine hK _ ?_ | (go_bits; refine hK _ ?_) | (go_bits; go_simp; refine hK _ ?_)); clear hK K))
                  with_reducible refine wpD_b (fun K hK => ?_)
                  go_simp
                  refine (stileX_q (gs := gs) (ts := ts ++ endQ gs d m d k) (c := (6, k, 0)) (L := tk) (hT.out.mr.below jb) (fun g e => Nat.lt_of_lt_of_le (hT.out.hX g e) jb.size) kT.out (sdQ_some k1H.out) (sdQ_some kV.out) (sdQ_some k0H.out) (sdQ_some kin.out) hfr.out hgl hL.out (by omega)).mono ?_
                  rintro e w6 ⟨rfl, hM6, hF6, hB6⟩
                  refine ⟨_, rfl, hK _ _ ?_⟩
                  clear hK K
                  have hT6 : Two2 w6 x (gs, ts ++ endQ gs d m d (k + 1)) A B ca cb 26 (26 + d) d k := (hT.out.below jb).tile (by rw [endQ_e, ← List.append_assoc]; unfold tEs; rw [hbtH.out]; exact hM6) hF6
                  repeat (first | ((with_reducible refine wpD_p (fun K hK => ?_)); go_simp; refine hK _ ?_; clear hK K) | ((with_reducible refine wpD_q (fun K hK => ?_)); go_simp; (first | refine hK _ ?_ | (go_bits; refine hK _ ?_) | (go_bits; go_simp; refine hK _ ?_)); clear hK K))
                  with_reducible refine wpD_g (fun K hK => ?_)
                  go_simp
                  refine ⟨Grew.of_alloc _, hK _ _ ?_⟩
                  clear hK K
                  have hal : Below w6.heap.size w6 (w6.alloc (Obj.cells #[.int .i64 (tk : Int)] 2)) := bl_al (bl_refl _) _
                  have hT7 := hT6.below hal
                  have hxw6 : x ≤ w6.heap.size := by have := hB6.size; have := jb.size; omega
                  refine wpD_append_atN rfl _ _ 55 rfl (x + 1) 2 i1 (.int .i64 0) 1 8 Tryz.underlying55 hi' hz0' hz1' hz2' rfl (by decide) (.slice B (k + 1) cb) (k + 1) (rowQ 25 (26 + d) k) (by go_simp) hT7.rb ⟨w6.heap.size, 0, none⟩ 1 1 [.int .i64 (tk : Int)] (by go_simp) rfl (cell_one_newT _ _ _) (fun x hx => by simp at hx; subst hx; rfl) (by unfold maxLen; omega) (by omega) (by simp; omega) ?_
                  intro v9 w9 hown9 hgrow9 hat9
                  obtain ⟨A9, c9, rfl⟩ := ownsRow_form hown9
                  have bw9 := Lib.hid ((((hbw.out.trans (jb.mono (show x ≤ wr.heap.size by omega))).trans hB6).trans (hal.mono (show x ≤ w6.heap.size by have := hB6.size; have := jb.size; omega))).grown hgrow9 (by have := hal.size; have := hB6.size; have := jb.size; omega) (fun g e => by have := (hT7.rb.lt g e).1; omega))
                  rw [← htkH.out] at hown9
                  have hT9 := Lib.hid (hT7.growB hown9 hgrow9 hat9)
                  clear hown9 hgrow9 hat9 hT7 hT6 hal hM6 hF6 hB6 jb hT hbw e0 lgd hfr hL htkH hxw
                  repeat (first | ((with_reducible refine wpD_p (fun K hK => ?_)); go_simp; refine hK _ ?_; clear hK K) | ((with_reducible refine wpD_q (fun K hK => ?_)); go_simp; (first | refine hK _ ?_ | (go_bits; refine hK _ ?_) | (go_bits; go_simp; refine hK _ ?_)); clear hK K))
                  with_reducible refine wpD_nil ?_
                  go_wp2
                  go_roundg (d - (k + 1))
                  case measure => omega
                  case rel => exact ⟨k + 1, A9, c9, by omega, (by have h9 := hk1H.out; rw [← h9]), rfl, hT9, bw9⟩
                · obtain rfl : d = k := by omega
                  obtain ⟨dd, hdd⟩ : ∃ s, decN d = s := ⟨_, rfl⟩
                  have zdd : dd.size ≤ 3 := by rw [← hdd]; exact decN_size (by omega)
                  have hddH := Lib.hid hdd
                  obtain ⟨nse, hnse⟩ : ∃ s : ByteArray, (⟨#[115, 101]⟩ : ByteArray) ++ dd = s := ⟨_, rfl⟩
                  have qnse := catT hnse (by have : (⟨#[115, 101]⟩ : ByteArray).size ≤ 100 := (by decide); omega)
                  obtain ⟨nsn, hnsn⟩ : ∃ s : ByteArray, (⟨#[115, 110]⟩ : ByteArray) ++ dd = s := ⟨_, rfl⟩
                  have qnsn := catT hnsn (by have : (⟨#[115, 110]⟩ : ByteArray).size ≤ 100 := (by decide); omega)
                  have kE := Lib.hid (show gqn (4, d, 0) = nse by rw [← hnse, ← hdd]; rfl)
                  have kN := Lib.hid (show gqn (3, d, 0) = nsn by rw [← hnsn, ← hdd]; rfl)
                  obtain ⟨tc, htc⟩ : ∃ tc : Nat, 26 + d + d = tc := ⟨_, rfl⟩
                  have htcb : tc ≤ 100 := by omega
                  have hL := Lib.hid (show (ts ++ endQ gs d m d d).length = tc by rw [List.length_append, endQ_len, htl]; omega)
                  have htcH := Lib.hid htc
                  have hfr := Lib.hid ((nm_end (gs := gs) (d := d) (m := m) d d hnt.out).fresh (d := (7, 0, 0)) (nm := ⟨#[99, 111, 114, 101]⟩) (fun c h => LQ_ok (by omega) (by omega) h (.inr (.inr rfl))) (in_tV (by simp)) rfl)
                  have hxw := hT.out.mr.lt
                  have jb : Below wr.heap.size wr wr := bl_refl wr
                  clear hdd hnse hnsn htc
                  go_wp2_with fail
                  refine (lDecimal_n (u := d) _ (by omega) hddH.out).mono ?_
                  rintro e wa2 ⟨rfl, hb⟩
                  replace jb := jb.trans (hb.mono jb.size)
                  clear hb
                  go_wp2_with fail
                  refine (lDecimal_n (u := d) _ (by omega) hddH.out).mono ?_
                  rintro e wb2 ⟨rfl, hb⟩
                  replace jb := jb.trans (hb.mono jb.size)
                  clear hb
                  go_wp2_with fail
                  refine (stileX_q (gs := gs) (ts := ts ++ endQ gs d m d d) (c := (7, 0, 0)) (L := tc) (hT.out.mr.below jb) (fun g e => Nat.lt_of_lt_of_le (hT.out.hX g e) jb.size) rfl (sdQ_some knx.out) (sdQ_some kex.out) (sdQ_some kE.out) (sdQ_some kN.out) hfr.out hgl hL.out (by omega)).mono ?_
                  rintro e w6 ⟨rfl, hM6, hF6, hB6⟩
                  have hT6 : Hid (Two2 w6 x (gs, ts ++ endQ gs d m d d ++ [tCo gs d]) A B ca cb 26 (26 + d) d d) := Lib.hid ((hT.out.below jb).tile hM6 hF6)
                  have hb6 : Hid (Below x w2 w6) := Lib.hid ((hbw.out.trans (jb.mono (show x ≤ wr.heap.size by omega))).trans hB6)
                  clear hM6 hF6 hB6 jb hT hbw hfr hL
                  obtain ⟨ga2, rfl, _, hga2, hca⟩ := own_cells hT6.out.ra (by omega)
                  obtain ⟨gb2, rfl, _, hgb2, hcb⟩ := own_cells hT6.out.rb (by omega)
                  obtain ⟨A1, c1, B2, c2, us, hA6⟩ := hT6.out.mr
                  obtain ⟨tt, htt⟩ : ∃ tt, ts ++ endQ gs d m d d ++ [tCo gs d] = tt := ⟨_, rfl⟩
                  rw [htt] at hA6
                  obtain ⟨ng, hng⟩ : ∃ ng, gs.length = ng := ⟨_, rfl⟩
                  obtain ⟨nt, hntl⟩ : ∃ nt, tt.length = nt := ⟨_, rfl⟩
                  have z0 := hA6.bx.cell 0 _ rfl
                  have z1 := hA6.bx.cell 1 _ rfl
                  have lz := hA6.bx.lt
                  simp only at z0 z1
                  rw [hng] at z0
                  rw [hntl] at z1
                  have hngH := Lib.hid hng
                  have hntlH := Lib.hid hntl
                  have hS := Lib.hid (show squareS d m = ⟨gs, tt, seedQ d, 2⟩ by rw [squareS, hgsH.out, htsH.out, htt])
                  have hcaH := Lib.hid (fun j (hj : j ≤ d) => hca j _ (rowQ_N hj))
                  have hcbH := Lib.hid (fun j (hj : j ≤ d) => hcb j _ (rowQ_E hj))
                  have hA6H := Lib.hid hA6
                  clear hca hcb hA6 hng hntl htt hT6 hgl
                  have lw1 : w.heap.size < w1.heap.size := by omega
                  have bR6 := Lib.hid (((bS1.out.1.belowB lw1 hb12.out).belowB (show w.heap.size < x by omega) hb6.out))
                  have hww6 := Lib.hid ((hbw1.out.trans (hb12.out.mono (by omega))).trans (hb6.out.mono (show w.heap.size ≤ x by omega)))
                  go_wp2_with fail
                  obtain ⟨w8, hw8⟩ : ∃ z, z = w6.alloc (Obj.cells #[.slice A1 ng c1, .slice B2 nt c2, .slice none 0 0, .int .i64 2] 30) := ⟨_, rfl⟩
                  have bS0 : Hid (Bx w8 w6.heap.size [.slice A1 ng c1, .slice B2 nt c2, .slice none 0 0, .int .i64 2]) := Lib.hid (by rw [hw8]; exact Bx.made w6 [.slice A1 ng c1, .slice B2 nt c2, .slice none 0 0, .int .i64 2] _)
                  have hb0 : Hid (Below w6.heap.size w6 w8) := Lib.hid (by rw [hw8]; exact bl_al (bl_refl _) _)
                  rw [← hw8]
                  obtain ⟨S, hSe⟩ : ∃ S, w6.heap.size = S := ⟨_, rfl⟩
                  simp only [hSe] at bS0 hb0 ⊢
                  rw [hSe] at hga2 hgb2 lz
                  have hxS := hb6.out.size
                  rw [hSe] at hxS
                  have hwx : w.heap.size < x := by omega
                  have hSeH := Lib.hid hSe
                  clear z0 z1 hSe hw8
                  go_loopg [15] n1 (fun gk i wr => ∃ (k : Nat) (C : Option Addr) (c : Nat), k + gk = n1 ∧ i = .int .i64 (k : Int) ∧ Hid (wr.ownsRow (S + 1) 67 3 (.slice C k c) k (plCells ((List.range k).map (sqE d)))) ∧ Hid (Bx wr S [.slice A1 ng c1, .slice B2 nt c2, .slice C k c, .int .i64 2]) ∧ Hid (Below S w6 wr))
                  case atStart => exact ⟨0, Option.none, 0, by omega, rfl, Lib.hid (World.ownsRow_nil _ _ _ _), bS0, hb0⟩
                  case round =>
                    clear bS0 hb0
                    obtain ⟨k, C, c, hk, rfl, hrp, bS, hbw⟩ := hrel
                    by_cases hkn : k < n1
                    · have hkI : (k : Int) ≤ (d : Int) := by omega
                      have hszl := hbw.out.size
                      have y2 := bS.out.cell 2 _ rfl
                      have fS := bS.out.froz 2
                      have lS := bS.out.lt
                      obtain ⟨tj, htj⟩ : ∃ tj : Int, (sqE d k).t = tj := ⟨_, rfl⟩
                      have p0 := (hbw.out.cell (p := ⟨gb2, k, none⟩) (show gb2 < S by omega)).trans (hcbH.out k (by omega))
                      rw [htj] at p0
                      have lgc : gb2 < wr.heap.size := by omega
                      have hkJ : (k : Int) < (d : Int) + 1 := by omega
                      have hkJ2 : k < d + 1 := by omega
                      have hPT := Lib.hid (show sqE d k = ⟨(n1 : Int), (k : Int), tj⟩ by rw [← htj, hn1I.out]; rfl)
                      clear htj
                      go_wp2_with fail
                      refine wp_region_ord [(0, .q), (1, .q), (2, .q), (3, .q), (4, .q), (5, .q), (6, .q), (7, .q), (8, .q), (9, .q), (10, .q), (11, .q), (12, .g), (13, .b), (14, .q), (15, .q), (16, .b)] (by kernel_rfl) (by kernel_rfl) ?_
                      simp only [pick, List.filterMap_cons, List.filterMap_nil, List.getElem?_toArray, List.getElem?_cons_zero, List.getElem?_cons_succ, Option.map_some]
                      repeat (first | ((with_reducible refine wpD_p (fun K hK => ?_)); go_simp; refine hK _ ?_; clear hK K) | ((with_reducible refine wpD_q (fun K hK => ?_)); go_simp; (first | refine hK _ ?_ | (go_bits; refine hK _ ?_) | (go_bits; go_simp; refine hK _ ?_)); clear hK K))
                      with_reducible refine wpD_g (fun K hK => ?_)
                      go_simp
                      refine ⟨Grew.of_alloc _, hK _ _ ?_⟩
                      clear hK K
                      have hal : Below wr.heap.size wr (wr.drew.alloc (Obj.cells #[.int .i64 (n1 : Int), .int .i64 (k : Int), .int .i64 tj] 67)) := bl_al (bl_dr (bl_refl _)) _
                      have hrp1 := ownsRow_below hrp.out hal
                      refine wpD_append_atN rfl _ _ 26 rfl (S + 1) 67 iP (.agg #[.int .i64 0, .int .i64 0, .int .i64 0]) 3 24 Tryz.underlying26 hiP hP0 hP1 hP2 rfl (by decide) (.slice C k c) k (plCells ((List.range k).map (sqE d))) (by go_simp) hrp1 ⟨wr.heap.size, 0, none⟩ 1 1 [.int .i64 (n1 : Int), .int .i64 (k : Int), .int .i64 tj] (by go_simp) rfl (cell_three_newS _ _ _ _ _) (fun x hx => by simp at hx; rcases hx with rfl | rfl | rfl <;> rfl) (by unfold maxLen; omega) (by omega) (by simp; omega) ?_
                      intro v5 w5 hown5 hgrow5 hat5
                      obtain ⟨A5, c5, rfl⟩ := ownsRow_form hown5
                      have hlo : ∀ g, (Value.slice C k c).ownBlock = some g → S + 1 ≤ g := fun g e => (hrp.out.lt g e).1
                      have bS5 := Lib.hid ((bS.out.below hal).grown hgrow5 (fun e => by have := hlo _ e; omega))
                      have bw5 := Lib.hid ((hbw.out.trans (hal.mono (by omega))).grown hgrow5 (by have := hal.size; omega) (fun g e => by have := hlo g e; omega))
                      have hown5H := Lib.hid (show w5.ownsRow (S + 1) 67 3 (.slice A5 (k + 1) c5) (k + 1) (plCells ((List.range (k + 1)).map (sqE d))) by rw [show (List.range (k + 1)).map (sqE d) = (List.range k).map (sqE d) ++ [sqE d k] by first | (rw [List.range_succ, List.map_append]; rfl) | (rw [List.range_succ, List.map_append, ← List.append_assoc]; rfl), plCells_snoc, hPT.out]; exact hown5)
                      have q2 := bS5.out.cell 2 _ rfl
                      have qf := bS5.out.froz 2
                      have ql := bS5.out.lt
                      clear hown5 hgrow5 hat5 hal hrp1 hrp bS hbw y2 fS lS p0 hlo hszl
                      repeat (first | ((with_reducible refine wpD_p (fun K hK => ?_)); go_simp; refine hK _ ?_; clear hK K) | ((with_reducible refine wpD_q (fun K hK => ?_)); go_simp; (first | refine hK _ ?_ | (go_bits; refine hK _ ?_) | (go_bits; go_simp; refine hK _ ?_)); clear hK K))
                      with_reducible refine wpD_b (fun K hK => ?_)
                      go_simp
                      refine hK _ _ ?_
                      clear hK K
                      with_reducible refine wpD_nil ?_
                      go_wp2
                      go_roundg (n1 - (k + 1))
                      case measure => omega
                      case rel => exact ⟨k + 1, A5, c5, by omega, by go_num, Lib.hid (ownsRow_setB hown5H.out (p := ⟨S, 2, none⟩) (show S < S + 1 by omega) _), Lib.hid (bS5.out.setSame 2 _), Lib.hid (bw5.out.setCell (p := ⟨S, 2, none⟩) (Nat.le_refl S) _)⟩
                    · obtain rfl : n1 = k := by omega
                      have hkI : ¬ (n1 : Int) ≤ (d : Int) := by omega
                      go_wp2_with fail
                      go_loopg [16] n1 (fun gk i wr => ∃ (k : Nat) (C : Option Addr) (c : Nat), k + gk = n1 ∧ i = .int .i64 (k : Int) ∧ Hid (wr.ownsRow (S + 1) 67 3 (.slice C (n1 + k) c) (n1 + k) (plCells ((List.range n1).map (sqE d) ++ (List.range k).map (sqN d)))) ∧ Hid (Bx wr S [.slice A1 ng c1, .slice B2 nt c2, .slice C (n1 + k) c, .int .i64 2]) ∧ Hid (Below S w6 wr))
                      case atStart => exact ⟨0, C, c, by omega, rfl, Lib.hid (by rw [List.range_zero, List.map_nil, List.append_nil]; exact hrp.out), bS, hbw⟩
                      case round =>
                        clear hrp bS hbw
                        obtain ⟨k, C, c, hk, rfl, hrp, bS, hbw⟩ := hrel
                        by_cases hkn : k < n1
                        · have hkI : (k : Int) ≤ (d : Int) := by omega
                          have hszl := hbw.out.size
                          have y2 := bS.out.cell 2 _ rfl
                          have fS := bS.out.froz 2
                          have lS := bS.out.lt
                          obtain ⟨tj, htj⟩ : ∃ tj : Int, (sqN d k).t = tj := ⟨_, rfl⟩
                          have p0 := (hbw.out.cell (p := ⟨ga2, k, none⟩) (show ga2 < S by omega)).trans (hcaH.out k (by omega))
                          rw [htj] at p0
                          have lgc : ga2 < wr.heap.size := by omega
                          have hkJ : (k : Int) < (d : Int) + 1 := by omega
                          have hkJ2 : k < d + 1 := by omega
                          have hPT := Lib.hid (show sqN d k = ⟨(k : Int), (n1 : Int), tj⟩ by rw [← htj, hn1I.out]; rfl)
                          clear htj
                          go_wp2_with fail
                          refine wp_region_ord [(0, .q), (1, .q), (2, .q), (3, .q), (4, .q), (5, .q), (6, .q), (7, .q), (8, .q), (9, .q), (10, .q), (11, .q), (12, .g), (13, .b), (14, .q), (15, .q), (16, .b)] (by kernel_rfl) (by kernel_rfl) ?_
                          simp only [pick, List.filterMap_cons, List.filterMap_nil, List.getElem?_toArray, List.getElem?_cons_zero, List.getElem?_cons_succ, Option.map_some]
                          repeat (first | ((with_reducible refine wpD_p (fun K hK => ?_)); go_simp; refine hK _ ?_; clear hK K) | ((with_reducible refine wpD_q (fun K hK => ?_)); go_simp; (first | refine hK _ ?_ | (go_bits; refine hK _ ?_) | (go_bits; go_simp; refine hK _ ?_)); clear hK K))
                          with_reducible refine wpD_g (fun K hK => ?_)
                          go_simp
                          refine ⟨Grew.of_alloc _, hK _ _ ?_⟩
                          clear hK K
                          have hal : Below wr.heap.size wr (wr.drew.alloc (Obj.cells #[.int .i64 (k : Int), .int .i64 (n1 : Int), .int .i64 tj] 67)) := bl_al (bl_dr (bl_refl _)) _
                          have hrp1 := ownsRow_below hrp.out hal
                          refine wpD_append_atN rfl _ _ 26 rfl (S + 1) 67 iP (.agg #[.int .i64 0, .int .i64 0, .int .i64 0]) 3 24 Tryz.underlying26 hiP hP0 hP1 hP2 rfl (by decide) (.slice C (n1 + k) c) (n1 + k) (plCells ((List.range n1).map (sqE d) ++ (List.range k).map (sqN d))) (by go_simp) hrp1 ⟨wr.heap.size, 0, none⟩ 1 1 [.int .i64 (k : Int), .int .i64 (n1 : Int), .int .i64 tj] (by go_simp) rfl (cell_three_newS _ _ _ _ _) (fun x hx => by simp at hx; rcases hx with rfl | rfl | rfl <;> rfl) (by unfold maxLen; omega) (by omega) (by simp; omega) ?_
                          intro v5 w5 hown5 hgrow5 hat5
                          obtain ⟨A5, c5, rfl⟩ := ownsRow_form hown5
                          have hlo : ∀ g, (Value.slice C (n1 + k) c).ownBlock = some g → S + 1 ≤ g := fun g e => (hrp.out.lt g e).1
                          have bS5 := Lib.hid ((bS.out.below hal).grown hgrow5 (fun e => by have := hlo _ e; omega))
                          have bw5 := Lib.hid ((hbw.out.trans (hal.mono (by omega))).grown hgrow5 (by have := hal.size; omega) (fun g e => by have := hlo g e; omega))
                          have hown5H := Lib.hid (show w5.ownsRow (S + 1) 67 3 (.slice A5 ((n1 + k) + 1) c5) ((n1 + k) + 1) (plCells ((List.range n1).map (sqE d) ++ (List.range (k + 1)).map (sqN d))) by rw [show (List.range n1).map (sqE d) ++ (List.range (k + 1)).map (sqN d) = (List.range n1).map (sqE d) ++ (List.range k).map (sqN d) ++ [sqN d k] by first | (rw [List.range_succ, List.map_append]; rfl) | (rw [List.range_succ, List.map_append, ← List.append_assoc]; rfl), plCells_snoc, hPT.out]; exact hown5)
                          have q2 := bS5.out.cell 2 _ rfl
                          have qf := bS5.out.froz 2
                          have ql := bS5.out.lt
                          clear hown5 hgrow5 hat5 hal hrp1 hrp bS hbw y2 fS lS p0 hlo hszl
                          repeat (first | ((with_reducible refine wpD_p (fun K hK => ?_)); go_simp; refine hK _ ?_; clear hK K) | ((with_reducible refine wpD_q (fun K hK => ?_)); go_simp; (first | refine hK _ ?_ | (go_bits; refine hK _ ?_) | (go_bits; go_simp; refine hK _ ?_)); clear hK K))
                          with_reducible refine wpD_b (fun K hK => ?_)
                          go_simp
                          refine hK _ _ ?_
                          clear hK K
                          with_reducible refine wpD_nil ?_
                          go_wp2
                          go_roundg (n1 - (k + 1))
                          case measure => omega
                          case rel => exact ⟨k + 1, A5, c5, by omega, by go_num, Lib.hid (ownsRow_setB hown5H.out (p := ⟨S, 2, none⟩) (show S < S + 1 by omega) _), Lib.hid (bS5.out.setSame 2 _), Lib.hid (bw5.out.setCell (p := ⟨S, 2, none⟩) (Nat.le_refl S) _)⟩
                        · obtain rfl : n1 = k := by omega
                          have hkI : ¬ (n1 : Int) ≤ (d : Int) := by omega
                          have hszl := hbw.out.size
                          have y2 := bS.out.cell 2 _ rfl
                          have lS := bS.out.lt
                          have hal : Below wr.heap.size wr (wr.alloc (Obj.cells #[.int .i64 (n1 : Int), .int .i64 (n1 : Int), .int .i64 (tc : Int)] 67)) := bl_al (bl_refl _) _
                          have hrp1 := Lib.hid (ownsRow_below hrp.out hal)
                          have bS6 := Lib.hid (bS.out.below hal)
                          have bw6 := Lib.hid (hbw.out.trans (hal.mono (show S ≤ wr.heap.size by omega)))
                          have bR7 := Lib.hid (bR6.out.belowB (show w.heap.size < S by omega) bw6.out)
                          have hsS : S ≤ (wr.alloc (Obj.cells #[.int .i64 (n1 : Int), .int .i64 (n1 : Int), .int .i64 (tc : Int)] 67)).heap.size := Nat.le_trans (show S ≤ wr.heap.size by omega) hal.size
                          clear hal hrp bS hbw
                          go_wp2_with (at_builtin; go_loud (refine wpList_append_own_at _ rfl _ _ 26 rfl (S + 1) 67 iP (.agg #[.int .i64 0, .int .i64 0, .int .i64 0]) 3 24 Tryz.underlying26 hiP hP0 hP1 hP2 rfl (by decide) (.slice C (n1 + n1) c) (n1 + n1) (plCells ((List.range n1).map (sqE d) ++ (List.range n1).map (sqN d))) rfl hrp1.out ⟨wr.heap.size, 0, none⟩ 1 1 [.int .i64 (n1 : Int), .int .i64 (n1 : Int), .int .i64 (tc : Int)] rfl rfl (cell_three_newS _ _ _ _ _) (fun x hx => by simp at hx; rcases hx with rfl | rfl | rfl <;> rfl) (by unfold maxLen; omega) (by omega) (by simp; omega) ?_; intro v9 w9 hown9 hgrow9 hat9 hat9b; obtain ⟨A9, c9, rfl⟩ := ownsRow_form hown9; have bS9 := Lib.hid (bS6.out.grown hgrow9 (fun e => by have := (hrp1.out.lt _ e).1; omega)); have bR9 := Lib.hid (bR7.out.grown hgrow9 (fun e => by have := (hrp1.out.lt _ e).1; omega)); have bw9 := Lib.hid (bw6.out.grown hgrow9 hsS (fun g e => by have := (hrp1.out.lt g e).1; omega)); have hown9H := Lib.hid hown9; have y0 := bS9.out.cell 0 _ rfl; have y1 := bS9.out.cell 1 _ rfl; have y2 := bS9.out.cell 2 _ rfl; have y3 := bS9.out.cell 3 _ rfl; have yf := bS9.out.froz; have ly := bS9.out.lt; have r0 := bR9.out.cell 0 _ rfl; have r1 := bR9.out.cell 1 _ rfl; have r2 := bR9.out.cell 2 _ rfl; have r3 := bR9.out.cell 3 _ rfl; have rf := bR9.out.froz; have lr := bR9.out.lt; clear hown9 hgrow9 hat9 hat9b))
                          refine bodyPost_ret (v := .agg #[.slice A1 ng c1, .slice B2 nt c2, .slice A9 (n1 + n1 + 1) c9, .int .i64 2]) (by simp only [results, Tryz.results10]; go_simp) rfl ?_
                          exact close_sq hS.out hngH.out hntlH.out hA6H.out bw9.out hSeH.out (by omega) htcH.out hwx lz hww6.out hown9H.out
end Go.Proofs.YtpnahobgmemdjaaGreatDoor
/- Walk: SquareSystem of the reference. -/

namespace Go.Proofs.YtpnahobgmemdjaaGreatDoor
open Go.RowKit Go.Shelf
attribute [local go_sem] BelowBy.cell BelowBy.cell_drew stillUpon givesUpon

set_option maxRecDepth 100000 in
set_option maxHeartbeats 4000000 in
theorem sSquareSystem_any (side : Int) (w : World) : Calls Tryz.prog 4 #[.int .i64 side] w (SyRes w (squareR side)) := by
  obtain ⟨v, hv⟩ : ∃ v, inB side 4 22 = v := ⟨_, rfl⟩
  cases v
  · have hr := Lib.hid (show noSy 2 = squareR side by unfold squareR; rw [hv]; rfl)
    go_enter Tryz.func4, Tryz.ntmps4
    go_wp2_with (go_at_call 9; refine (l00In_any side 4 22 _).mono ?_; rw [hv]; rintro e _ ⟨rfl, rfl⟩)
    refine bodyPost_ret (v := .tuple #[.agg #[.slice none 0 0, .slice none 0 0, .slice none 0 0, .int .i64 0], .int .i64 2]) (by simp only [results, Tryz.results4]; go_simp) rfl ?_
    exact SyRes.none_ hr.out (bl_al (bl_refl w) _)
  · have hb := inB_true.1 hv
    obtain ⟨s, hs⟩ : ∃ s : Nat, side = (s : Int) := ⟨side.toNat, by omega⟩
    subst hs
    have hr := Lib.hid (squareR_eq (s := s) (by omega) (by omega))
    go_enter Tryz.func4, Tryz.ntmps4
    go_wp2_with (go_at_call 9; refine (l00In_any (s : Int) 4 22 _).mono ?_; rw [hv]; rintro e _ ⟨rfl, rfl⟩)
    obtain ⟨w1, hw1⟩ : ∃ z, z = w.alloc (Obj.cells #[.slice none 0 0, .slice none 0 0, .slice none 0 0, .int .i64 0] 30) := ⟨_, rfl⟩
    have bR1 : Bx w1 w.heap.size [.slice none 0 0, .slice none 0 0, .slice none 0 0, .int .i64 0] := by rw [hw1]; exact Bx.made w [.slice none 0 0, .slice none 0 0, .slice none 0 0, .int .i64 0] _
    have hal : Below w.heap.size w w1 := by rw [hw1]; exact bl_al (bl_refl _) _
    have hs1 : w.heap.size < w1.heap.size := by rw [hw1]; simp
    rw [← hw1]
    clear hw1
    refine (lSystem_any s _ _ w1 (by omega) (by omega) rfl rfl).mono ?_
    rintro e w2 ⟨A1, B1, C1, ca, cb, cc, us, rfl, hO, hb2⟩
    obtain ⟨R, hR⟩ : ∃ R, squareS (dgP s) (2 ^ dgP s - stP s) = R := ⟨_, rfl⟩
    have ht : R.t = 2 := by rw [← hR]; rfl
    rw [hR] at hO ⊢
    have bR := Lib.hid (bR1.below hb2)
    have hbH := Lib.hid (show Below w.heap.size w w2 from hal.trans (hb2.mono (by omega)))
    obtain ⟨gs, ts, xl, tt⟩ := R
    simp only at hO ht ⊢
    subst ht
    obtain ⟨ng, hng⟩ : ∃ ng, gs.length = ng := ⟨_, rfl⟩
    obtain ⟨nt, hnt⟩ : ∃ nt, ts.length = nt := ⟨_, rfl⟩
    obtain ⟨nx, hnx⟩ : ∃ nx, xl.length = nx := ⟨_, rfl⟩
    rw [hng, hnt, hnx]
    have hngH := Lib.hid hng
    have hntH := Lib.hid hnt
    have hnxH := Lib.hid hnx
    have hOH := Lib.hid hO
    have z0 := bR.out.cell 0 _ rfl
    have z1 := bR.out.cell 1 _ rfl
    have z2 := bR.out.cell 2 _ rfl
    have z3 := bR.out.cell 3 _ rfl
    have f0 := bR.out.froz
    have l0 := bR.out.lt
    have hRH := Lib.hid hR
    clear hR hO hb2 hng hnt hnx bR1 hal
    go_wp2
    refine bodyPost_ret (v := .tuple #[.agg #[.slice A1 ng ca, .slice B1 nt cb, .slice C1 nx cc, .int .i64 2], .int .i64 0]) (by simp only [results, Tryz.results4]; go_simp) rfl ?_
    rw [hr.out, hRH.out, ← hngH.out, ← hntH.out, ← hnxH.out]
    exact SyRes.boxed (r := (⟨gs, ts, xl, 2⟩, 0)) hOH.out hs1 hbH.out
end Go.Proofs.YtpnahobgmemdjaaGreatDoor
