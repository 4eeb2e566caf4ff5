/- Walks: the network of some bonds is made. -/
import Derived.Test.YthieodccakphiaaGreatF1
import Derived.Test.YthieodccakphiaaGreatF2b
import Derived.Test.YthieodccakphiaaGreatW20a
import Derived.Test.YthieodccakphiaaGreatP8
import Derived.Test.YthieodccakphiaaGreatOrdApp
import Derived.Maps.AppendAt
namespace Go.Proofs.YthieodccakphiaaGreat
open Go.RowKit Go.Shelf
set_option linter.unusedSimpArgs false
set_option linter.unusedVariables false
attribute [local go_sem] BelowBy.cell BelowBy.cell_drew stillUpon givesUpon BelowBy.cell_drew2 BelowBy.cell_drew3

section
variable {P : Program} {ops : Array Oper}
theorem wpD_append_at {o : Oper} {rest : List (Oper × Tag)} {a : Act} {w : World} {Q : Act → World → Prop} (hgd : o.guard = none) (s x : Operand) (t : TypeId)
    (ho : o.op = .call { callee := .builtin .append, args := #[s, x], argTypes := #[t, t] })
    (base : Nat) (e : TypeId) (i : TypeInfo) (z : Value) (size bytes : Nat) (ht : P.underlying t = some (.slice e)) (hi : P.info? e = some i) (hz : i.zero = some z)
    (hsize : i.size = size) (hby : i.bytes = bytes) (hzs : z.cells.size = size) (hsz : 0 < size)
    (v : Value) (n : Nat) (xs : List Value) (hs : a.eval s = v) (hown : w.ownsRow base e size v n xs)
    (ad : Addr) (m c : Nat) (news : List Value) (hx : a.eval x = .slice (some ad) m c) (hl : news.length = m * size) (hnews : ∀ j u, news[j]? = some u → w.cell? (ad.add j) = some u) (h1 : ∀ u ∈ news, u.oneCell' = true)
    (h63 : n + m ≤ maxLen) (hbytes : (n + m) * bytes ≤ 140737488355328) (hbase : base ≤ w.heap.size)
    (h : ∀ v' w', w'.ownsRow base e size v' (n + m) (xs ++ news) → w.grownBy w' v.ownBlock → (v'.ownBlock = v.ownBlock ∨ v'.ownBlock = some w.heap.size) → wpD P ops Q rest (a.put o.dst v') w') : wpD P ops Q ((o, .b) :: rest) a w := by
  refine wpD_b fun K hK => ?_
  have hw : Region.wanted o (yielded ops a.tmps) = true := by simp [Region.wanted, hgd]
  rw [if_pos hw]
  obtain ⟨v', w', hrun, h2, h3, _, h4⟩ := run_append_own_at (P := P) w base t o.type e i z size bytes ht hi hz hsize hby hzs hsz v n xs hown ad m c news hl hnews h1 h63 hbytes hbase
  unfold execOp
  simp only [ho, resolve, invoke, builtin, Sem.run_bind, Sem.run_pure, Result.andThen_ok, List.map_toArray, List.map_cons, List.map_nil, hs, hx, hrun]
  exact hK _ _ (h v' w' h2 h3 h4)
end
def zeroM : Nat → Nat → Int := fun _ _ => 0
theorem rowsZ_snoc (M : Nat → Nat → Int) (n k : Nat) : rowsZ M n k ++ [rowZ M n k] = rowsZ M n (k + 1) := by simp [rowsZ, List.range_succ]
theorem made_row (n k : Nat) : (madeCells #[Value.int .i64 0] n).toList = rowZ zeroM n k := by
  apply List.ext_getElem?
  intro j
  by_cases hj : j < n
  · rw [rowZ_get hj, Array.getElem?_toList]
    simp [madeCells, hj, zeroM, Nat.mod_one]
  · rw [List.getElem?_eq_none (by rw [Array.length_toList, size_madeCells]; omega), List.getElem?_eq_none (by rw [rowZ_len]; omega)]
/-- rows of rows beside each other: two slices and a struct that holds them -/
structure NetQ (w : World) (base p n kR kF : Nat) (vR vF : Value) (uR uF : List Value) : Prop where
  lt : p < w.heap.size
  ge : base ≤ p
  room : w.cell? ⟨p, 0, none⟩ = some vR
  flow : w.cell? ⟨p, 1, none⟩ = some vF
  fr : w.frozen? ⟨p, 0, none⟩ = false ∧ w.frozen? ⟨p, 1, none⟩ = false
  R : Own2 w base 103 2 1 vR uR (rowsZ zeroM n kR)
  F : Own2 w base 103 2 1 vF uF (rowsZ zeroM n kF)
  off : ∀ g, InMat vR uR g → ¬ InMat vF uF g
  offp : ¬ InMat vR uR p ∧ ¬ InMat vF uF p
theorem own2_in {w : World} {base T E size g : Nat} {v : Value} {us : List Value} {rows : List (List Value)} (h : Own2 w base T E size v us rows) (hg : InMat v us g) : base ≤ g ∧ g < w.heap.size := by
  rcases hg with hg | ⟨k, u, hu, hg⟩
  · exact h.lt g hg
  · exact h.ltIn hu g hg
theorem own2_kept {w w' : World} {base T E size : Nat} {v : Value} {us : List Value} {rows : List (List Value)} {row : Option Nat} (h : Own2 w base T E size v us rows) (hg : w.grownBy w' row) (h1 : ∀ g, row = some g → ¬ InMat v us g) : Own2 w' base T E size v us rows :=
  h.kept hg fun g e => ⟨fun e' => h1 g e (.inl e'), fun k u hu e' => h1 g e (.inr ⟨k, u, hu, e'⟩)⟩
section
variable {w w' w1 : World} {base p n kR kF : Nat} {vR vF v' : Value} {uR uF : List Value}
theorem NetQ.kept {row : Option Nat} (h : NetQ w base p n kR kF vR vF uR uF) (hg : w.grownBy w' row) (h1 : ∀ g, row = some g → g ≠ p ∧ ¬ InMat vR uR g ∧ ¬ InMat vF uF g) : NetQ w' base p n kR kF vR vF uR uF := by
  have hb := hg.block p h.lt (fun e => (h1 p e.symm).1 rfl)
  exact ⟨Nat.lt_of_lt_of_le h.lt hg.size, h.ge, (World.cell?_of_block (w := w) (a := ⟨p, 0, none⟩) hb).trans h.room, (World.cell?_of_block (w := w) (a := ⟨p, 1, none⟩) hb).trans h.flow,
    ⟨(World.frozen?_of_block (w := w) (a := ⟨p, 0, none⟩) hb).trans h.fr.1, (World.frozen?_of_block (w := w) (a := ⟨p, 1, none⟩) hb).trans h.fr.2⟩,
    own2_kept h.R hg (fun g e => (h1 g e).2.1), own2_kept h.F hg (fun g e => (h1 g e).2.2), h.off, h.offp⟩
theorem NetQ.below (h : NetQ w base p n kR kF vR vF uR uF) (hb : Below w.heap.size w w') : NetQ w' base p n kR kF vR vF uR uF :=
  h.kept (grown_below hb none) (fun g e => by cases e)
theorem inMat_snoc {v v' x : Value} {us : List Value} {b c g : Nat} (h : InMat v' (us ++ [x]) g) (hv : v'.ownBlock = v.ownBlock ∨ v'.ownBlock = some c) (hx : x.ownBlock = some b) : InMat v us g ∨ g = c ∨ g = b := by
  rcases h with h | ⟨k, u, hu, h⟩
  · rcases hv with hv | hv
    · exact .inl (.inl (hv ▸ h))
    · rw [hv] at h
      injection h with h
      exact .inr (.inl h.symm)
  · rcases Nat.lt_or_ge k us.length with hlt | hge
    · rw [List.getElem?_append_left hlt] at hu
      exact .inl (.inr ⟨k, u, hu, h⟩)
    · have hlt := (List.getElem?_eq_some_iff.1 hu).1
      simp at hlt
      obtain rfl : k = us.length := by omega
      simp at hu
      subst hu
      rw [hx] at h
      injection h with h
      exact .inr (.inr h.symm)
/-- one more row of room: in w1 lie the new row (block b) and what is appended -/
theorem NetQ.growR {b c : Nat} (h : NetQ w base p n kR kF vR vF uR uF) (hb1 : Below w.heap.size w w1) (hb : w.heap.size ≤ b) (hx : w1.ownsRow base 2 1 (.slice (some ⟨b, 0, none⟩) n n) n (rowZ zeroM n kR))
    (hown : w'.ownsRow base 103 1 v' (kR + 1) (uR ++ [.slice (some ⟨b, 0, none⟩) n n])) (hg : w1.grownBy w' vR.ownBlock) (hat : v'.ownBlock = vR.ownBlock ∨ v'.ownBlock = some w1.heap.size) :
    NetQ (w'.setCell ⟨p, 0, none⟩ v') base p n (kR + 1) kF v' vF (uR ++ [.slice (some ⟨b, 0, none⟩) n n]) uF ∧ p < w'.heap.size ∧ w'.cell? ⟨p, 0, none⟩ = some vR ∧ w'.frozen? ⟨p, 0, none⟩ = false := by
  have h1 := h.below hb1
  have hl1 := hb1.size
  have hlen : uR.length = kR := by rw [h.R.len, rowsZ_len]
  have hR := h1.R.push hlen hx (fun g e => by
    have e2 : b = g := by injection e
    subst e2
    exact ⟨fun e' => by have := (h.R.lt _ e').2; omega, fun k u hu e' => by have := (h.R.ltIn hu _ e').2; omega⟩) hown hg hat
  rw [rowsZ_snoc] at hR
  have hpR : ∀ g, vR.ownBlock = some g → g ≠ p := fun g e e' => h.offp.1 (.inl (by rw [← e']; exact e))
  have hpb := hg.block p h1.lt (fun e => hpR p e.symm rfl)
  have hF : Own2 w' base 103 2 1 vF uF (rowsZ zeroM n kF) := own2_kept h1.F hg (fun g e => h.off g (.inl e))
  have hnew : ∀ g, InMat v' (uR ++ [.slice (some ⟨b, 0, none⟩) n n]) g → InMat vR uR g ∨ w.heap.size ≤ g := fun g hg' => by
    rcases inMat_snoc hg' hat (rfl : (Value.slice (some ⟨b, 0, none⟩) n n).ownBlock = some b) with h2 | h2 | h2
    · exact .inl h2
    · exact .inr (by omega)
    · exact .inr (by dsimp only at h2; omega)
  have hpn : ¬ InMat v' (uR ++ [.slice (some ⟨b, 0, none⟩) n n]) p := fun hp => by
    rcases hnew p hp with h2 | h2
    · exact h.offp.1 h2
    · have := h.lt; omega
  have hgs : w'.grownBy (w'.setCell ⟨p, 0, none⟩ v') (some p) := ⟨rfl, rfl, rfl, by simp, fun i hi hne => Below.heap_setCell _ _ _ _ (fun e => hne (by rw [e]))⟩
  have hpl : p < w'.heap.size := Nat.lt_of_lt_of_le h1.lt hg.size
  have hc0 : w'.cell? ⟨p, 0, none⟩ = some vR := (World.cell?_of_block (w := w1) (a := ⟨p, 0, none⟩) hpb).trans h1.room
  have hc1 : w'.cell? ⟨p, 1, none⟩ = some vF := (World.cell?_of_block (w := w1) (a := ⟨p, 1, none⟩) hpb).trans h1.flow
  have hf0 : w'.frozen? ⟨p, 0, none⟩ = false := (World.frozen?_of_block (w := w1) (a := ⟨p, 0, none⟩) hpb).trans h1.fr.1
  have hf1 : w'.frozen? ⟨p, 1, none⟩ = false := (World.frozen?_of_block (w := w1) (a := ⟨p, 1, none⟩) hpb).trans h1.fr.2
  refine ⟨⟨by simpa using hpl, h.ge, World.cell?_setCell_same _ _ _ hc0, by rw [World.cell?_setCell_other _ _ _ _ (by simp)]; exact hc1, ⟨by simpa using hf0, by simpa using hf1⟩,
    own2_kept hR hgs (fun g e => by injection e with e; rw [← e]; exact hpn), own2_kept hF hgs (fun g e => by injection e with e; rw [← e]; exact h.offp.2), fun g hg' hF' => ?_, hpn, h.offp.2⟩, hpl, hc0, hf0⟩
  rcases hnew g hg' with h2 | h2
  · exact h.off g h2 hF'
  · have := (own2_in h.F hF').2
    omega
/-- one more row of flow -/
theorem NetQ.growF {b c : Nat} (h : NetQ w base p n kR kF vR vF uR uF) (hb1 : Below w.heap.size w w1) (hb : w.heap.size ≤ b) (hx : w1.ownsRow base 2 1 (.slice (some ⟨b, 0, none⟩) n n) n (rowZ zeroM n kF))
    (hown : w'.ownsRow base 103 1 v' (kF + 1) (uF ++ [.slice (some ⟨b, 0, none⟩) n n])) (hg : w1.grownBy w' vF.ownBlock) (hat : v'.ownBlock = vF.ownBlock ∨ v'.ownBlock = some w1.heap.size) :
    NetQ (w'.setCell ⟨p, 1, none⟩ v') base p n kR (kF + 1) vR v' uR (uF ++ [.slice (some ⟨b, 0, none⟩) n n]) ∧ p < w'.heap.size ∧ w'.cell? ⟨p, 1, none⟩ = some vF ∧ w'.frozen? ⟨p, 1, none⟩ = false := by
  have h1 := h.below hb1
  have hl1 := hb1.size
  have hlen : uF.length = kF := by rw [h.F.len, rowsZ_len]
  have hF := h1.F.push hlen hx (fun g e => by
    have e2 : b = g := by injection e
    subst e2
    exact ⟨fun e' => by have := (h.F.lt _ e').2; omega, fun k u hu e' => by have := (h.F.ltIn hu _ e').2; omega⟩) hown hg hat
  rw [rowsZ_snoc] at hF
  have hpF : ∀ g, vF.ownBlock = some g → g ≠ p := fun g e e' => h.offp.2 (.inl (by rw [← e']; exact e))
  have hpb := hg.block p h1.lt (fun e => hpF p e.symm rfl)
  have hR : Own2 w' base 103 2 1 vR uR (rowsZ zeroM n kR) := own2_kept h1.R hg (fun g e hi => h.off g hi (.inl e))
  have hnew : ∀ g, InMat v' (uF ++ [.slice (some ⟨b, 0, none⟩) n n]) g → InMat vF uF g ∨ w.heap.size ≤ g := fun g hg' => by
    rcases inMat_snoc hg' hat (rfl : (Value.slice (some ⟨b, 0, none⟩) n n).ownBlock = some b) with h2 | h2 | h2
    · exact .inl h2
    · exact .inr (by omega)
    · exact .inr (by dsimp only at h2; omega)
  have hpn : ¬ InMat v' (uF ++ [.slice (some ⟨b, 0, none⟩) n n]) p := fun hp => by
    rcases hnew p hp with h2 | h2
    · exact h.offp.2 h2
    · have := h.lt; omega
  have hgs : w'.grownBy (w'.setCell ⟨p, 1, none⟩ v') (some p) := ⟨rfl, rfl, rfl, by simp, fun i hi hne => Below.heap_setCell _ _ _ _ (fun e => hne (by rw [e]))⟩
  have hpl : p < w'.heap.size := Nat.lt_of_lt_of_le h1.lt hg.size
  have hc0 : w'.cell? ⟨p, 0, none⟩ = some vR := (World.cell?_of_block (w := w1) (a := ⟨p, 0, none⟩) hpb).trans h1.room
  have hc1 : w'.cell? ⟨p, 1, none⟩ = some vF := (World.cell?_of_block (w := w1) (a := ⟨p, 1, none⟩) hpb).trans h1.flow
  have hf0 : w'.frozen? ⟨p, 0, none⟩ = false := (World.frozen?_of_block (w := w1) (a := ⟨p, 0, none⟩) hpb).trans h1.fr.1
  have hf1 : w'.frozen? ⟨p, 1, none⟩ = false := (World.frozen?_of_block (w := w1) (a := ⟨p, 1, none⟩) hpb).trans h1.fr.2
  refine ⟨⟨by simpa using hpl, h.ge, by rw [World.cell?_setCell_other _ _ _ _ (by simp)]; exact hc0, World.cell?_setCell_same _ _ _ hc1, ⟨by simpa using hf0, by simpa using hf1⟩,
    own2_kept hR hgs (fun g e => by injection e with e; rw [← e]; exact h.offp.1), own2_kept hF hgs (fun g e => by injection e with e; rw [← e]; exact hpn), fun g hR' hg' => ?_, h.offp.1, hpn⟩, hpl, hc1, hf1⟩
  rcases hnew g hg' with h2 | h2
  · exact h.off g hR' h2
  · have := (own2_in h.R hR').2
    omega
theorem NetQ.net (h : NetQ w base p n n n vR vF uR uF) : Net w base p n zeroM zeroM vR vF uR uF := ⟨h.lt, h.ge, h.room, h.flow, h.fr, h.R, h.F, h.off, h.offp⟩
end
/-- one number of the room is stored -/
theorem Net.storeR {w : World} {base p n u j g' cap' : Nat} {R F : Nat → Nat → Int} {vR vF : Value} {uR uF : List Value} (h : Net w base p n R F vR vF uR uF) (hu : u < n) (hx : uR[u]? = some (.slice (some ⟨g', 0, none⟩) n cap')) (x : Int) :
    Net (w.setCell ⟨g', j, none⟩ (.int .i64 x)) base p n (fun a b => if a = u ∧ b = j then x else R a b) F vR vF uR uF := by
  have hin : InMat vR uR g' := .inr ⟨u, _, hx, rfl⟩
  have hne : p ≠ g' := fun e => h.offp.1 (e ▸ hin)
  have hgn : w.grownBy (w.setCell ⟨g', j, none⟩ (.int .i64 x)) (some g') := ⟨rfl, rfl, rfl, by simp, fun i hi hne => Below.heap_setCell _ _ _ _ (fun e => hne (by rw [e]))⟩
  have hb : (w.setCell ⟨g', j, none⟩ (.int .i64 x)).heap[p]? = w.heap[p]? := Below.heap_setCell _ _ _ _ hne
  exact ⟨by simpa using h.lt, h.ge, (World.cell?_of_block (w := w) (a := ⟨p, 0, none⟩) hb).trans h.room, (World.cell?_of_block (w := w) (a := ⟨p, 1, none⟩) hb).trans h.flow,
    ⟨(World.frozen?_of_block (w := w) (a := ⟨p, 0, none⟩) hb).trans h.fr.1, (World.frozen?_of_block (w := w) (a := ⟨p, 1, none⟩) hb).trans h.fr.2⟩,
    h.R.store hu hx x, h.F.kept hgn (fun g e => by injection e with e; rw [← e]; exact h.off g' hin), h.off, h.offp⟩
theorem Net.storeF {w : World} {base p n u j g' cap' : Nat} {R F : Nat → Nat → Int} {vR vF : Value} {uR uF : List Value} (h : Net w base p n R F vR vF uR uF) (hu : u < n) (hx : uF[u]? = some (.slice (some ⟨g', 0, none⟩) n cap')) (x : Int) :
    Net (w.setCell ⟨g', j, none⟩ (.int .i64 x)) base p n R (fun a b => if a = u ∧ b = j then x else F a b) vR vF uR uF := by
  have hin : InMat vF uF g' := .inr ⟨u, _, hx, rfl⟩
  have hne : p ≠ g' := fun e => h.offp.2 (e ▸ hin)
  have hgn : w.grownBy (w.setCell ⟨g', j, none⟩ (.int .i64 x)) (some g') := ⟨rfl, rfl, rfl, by simp, fun i hi hne => Below.heap_setCell _ _ _ _ (fun e => hne (by rw [e]))⟩
  have hb : (w.setCell ⟨g', j, none⟩ (.int .i64 x)).heap[p]? = w.heap[p]? := Below.heap_setCell _ _ _ _ hne
  exact ⟨by simpa using h.lt, h.ge, (World.cell?_of_block (w := w) (a := ⟨p, 0, none⟩) hb).trans h.room, (World.cell?_of_block (w := w) (a := ⟨p, 1, none⟩) hb).trans h.flow,
    ⟨(World.frozen?_of_block (w := w) (a := ⟨p, 0, none⟩) hb).trans h.fr.1, (World.frozen?_of_block (w := w) (a := ⟨p, 1, none⟩) hb).trans h.fr.2⟩,
    h.R.kept hgn (fun g e => by injection e with e; rw [← e]; exact fun hi => h.off g' hi hin), h.F.store hu hx x, h.off, h.offp⟩
end Go.Proofs.YthieodccakphiaaGreat
