/- The reference's net in memory: room, push. -/
import Derived.Test.YthieodccakphiaaGreatF7
namespace Go.Proofs.YthieodccakphiaaGreat
open Go.RowKit Go.Shelf
set_option linter.unusedSimpArgs false
set_option linter.unusedVariables false
attribute [local go_sem] BelowBy.cell BelowBy.cell_drew stillUpon givesUpon BelowBy.cell_drew2 BelowBy.cell_drew3

def incB (bs : List Bd) (u i : Nat) : Bool := match bs[i]? with
  | some e => decide (e.a = u ∨ e.b = u)
  | none => false
/-- the bonds at a point, of the first k -/
def incL (bs : List Bd) (k u : Nat) : List Nat := (List.range k).filter (incB bs u)
def incRows (bs : List Bd) (k n : Nat) : List (List Value) := (List.range n).map fun u => (intsI (incL bs k u)).map (Value.int .i64)
theorem incRows_len (bs : List Bd) (k n : Nat) : (incRows bs k n).length = n := by simp [incRows]
theorem incRows_get {bs : List Bd} {k n u : Nat} (h : u < n) : (incRows bs k n)[u]? = some ((intsI (incL bs k u)).map (Value.int .i64)) := by simp [incRows, h]
/-- the net; w0: the world in which the bonds came in -/
structure SNet (w0 w : World) (p n gF : Nat) (B : Option Addr) (m c k : Nat) (bs : List Bd) (f : Nat → Int) (vA : Value) (uA : List Value) : Prop where
  lt : p < w.heap.size
  ge : w0.heap.size ≤ p
  c0 : w.cell? ⟨p, 0, none⟩ = some (.int .i64 (n : Int))
  c1 : w.cell? ⟨p, 1, none⟩ = some (.slice B m c)
  c2 : w.cell? ⟨p, 2, none⟩ = some vA
  c3 : w.cell? ⟨p, 3, none⟩ = some (.slice (some ⟨gF, 0, none⟩) m m)
  bw : Below w0.heap.size w0 w
  A : Own2 w w0.heap.size 103 2 1 vA uA (incRows bs k n)
  fl : w.rowIs gF 2 m (fun i => .int .i64 (f i))
  gl : w0.heap.size ≤ gF
  off : ¬ InMat vA uA gF ∧ ¬ InMat vA uA p ∧ gF ≠ p
section
variable {w0 w w' : World} {p n gF : Nat} {B : Option Addr} {m c k : Nat} {bs : List Bd} {f : Nat → Int} {vA : Value} {uA : List Value}
theorem SNet.below (h : SNet w0 w p n gF B m c k bs f vA uA) (hb : Below w.heap.size w w') : SNet w0 w' p n gF B m c k bs f vA uA :=
  ⟨Nat.lt_of_lt_of_le h.lt hb.size, h.ge, (hb.cell (p := ⟨p, 0, none⟩) h.lt).trans h.c0, (hb.cell (p := ⟨p, 1, none⟩) h.lt).trans h.c1, (hb.cell (p := ⟨p, 2, none⟩) h.lt).trans h.c2, (hb.cell (p := ⟨p, 3, none⟩) h.lt).trans h.c3,
    h.bw.trans (hb.mono h.bw.size), h.A.below hb, h.fl.of_block (hb.block gF h.fl.lt), h.gl, h.off⟩
/-- one flow is stored -/
theorem SNet.store (h : SNet w0 w p n gF B m c k bs f vA uA) (i : Nat) (x : Int) : SNet w0 (w.setCell ⟨gF, i, none⟩ (.int .i64 x)) p n gF B m c k bs (fun j => if j = i then x else f j) vA uA := by
  have hb : (w.setCell ⟨gF, i, none⟩ (.int .i64 x)).heap[p]? = w.heap[p]? := Below.heap_setCell _ _ _ _ (fun e => h.off.2.2 e.symm)
  have hg : w.grownBy (w.setCell ⟨gF, i, none⟩ (.int .i64 x)) (some gF) := ⟨rfl, rfl, rfl, by simp, fun j hj hne => Below.heap_setCell _ _ _ _ (fun e => hne (by rw [e]))⟩
  exact ⟨by simpa using h.lt, h.ge, (World.cell?_of_block (w := w) (a := ⟨p, 0, none⟩) hb).trans h.c0, (World.cell?_of_block (w := w) (a := ⟨p, 1, none⟩) hb).trans h.c1, (World.cell?_of_block (w := w) (a := ⟨p, 2, none⟩) hb).trans h.c2, (World.cell?_of_block (w := w) (a := ⟨p, 3, none⟩) hb).trans h.c3,
    h.bw.setCell (p := ⟨gF, i, none⟩) h.gl _, own2_kept h.A hg (fun g e => by injection e with e; rw [← e]; exact h.off.1), (h.fl.set i _).congr (fun j _ => by split <;> rfl), h.gl, h.off⟩
/-- the bonds at a point -/
theorem SNet.inc (h : SNet w0 w p n gF B m c k bs f vA uA) {u : Nat} (hu : u < n) : ∃ g cap A' cap', vA = .slice (some ⟨g, 0, none⟩) n cap ∧ g < w.heap.size ∧ w.cell? ⟨g, u, none⟩ = some (.slice A' (incL bs k u).length cap') ∧
    ∀ (j i : Nat), (incL bs k u)[j]? = some i → ∃ g', A' = some ⟨g', 0, none⟩ ∧ g' < w.heap.size ∧ w.cell? ⟨g', j, none⟩ = some (.int .i64 (i : Int)) := by
  have hl : uA.length = n := by rw [h.A.len, incRows_len]
  obtain ⟨g, cap, hv⟩ := h.A.formPos hl (by omega)
  have hA := h.A
  rw [hv] at hA
  obtain ⟨x, hx⟩ : ∃ x, uA[u]? = some x := ⟨_, List.getElem?_eq_getElem (by omega)⟩
  obtain ⟨q, r, hr, hown⟩ := hA.get hx
  rw [incRows_get hu] at hr
  obtain rfl := Option.some.inj hr
  have hq := hown.1
  simp only [List.length_map, intsI, Nat.mul_one] at hq
  subst hq
  obtain ⟨A', cap', rfl⟩ := ownsRow_form hown
  have hc := hA.cellAt hl hx
  refine ⟨g, cap, A', cap', hv, hc.2.2, hc.1, fun j i hj => ?_⟩
  have hjl := (List.getElem?_eq_some_iff.1 hj).1
  rcases hown.2 with ⟨_, h0⟩ | ⟨g', cap2, cur, hv2, _, hh, _⟩
  · omega
  · injection hv2 with e1 e2 e3
    subst e1
    exact ⟨g', rfl, (Array.getElem?_eq_some_iff.1 hh).1, (hown.cellAt j (by omega)).trans (by simp [intsI, hj])⟩
end
set_option maxRecDepth 100000 in
set_option maxHeartbeats 1000000 in
theorem room_any {w0 : World} (p n gF : Nat) (B : Option Addr) (m c k u i : Nat) (bs : List Bd) (f : Nat → Int) (vA : Value) (uA : List Value) (e : Bd) (w : World) (h : SNet w0 w p n gF B m c k bs f vA uA) (hB : RdSl 3 RBd w0 B m bs) (he : bs[i]? = some e) (hs : 0 < e.s ∧ e.s ≤ 4) (hf : -e.s ≤ f i ∧ f i ≤ e.s) {r : Int} {v : Nat} (hr : rs e (f i) u = r) (hv : (if e.a = u then e.b else e.a) = v) :
    Calls Tryz.prog 163 #[.pointer (some ⟨p, 0, none⟩), .int .i64 (u : Int), .int .i64 (i : Int)] w fun x w' => x = .returned (.tuple #[.int .i64 r, .int .i64 (v : Int)]) ∧ Below w.heap.size w w' := by
  have him : i < m := by rw [← hB.len]; exact (List.getElem?_eq_some_iff.1 he).1
  obtain ⟨bb, ob, rfl, hbb, hbc⟩ := (hB.below RBd.stable h.bw).ptr (by omega)
  obtain ⟨e0, e1, e2⟩ := hbc i e he
  have c1 := h.c1
  have c3 := h.c3
  have l0 := h.lt
  have c4 := h.fl.cell him
  have l1 := h.fl.lt
  obtain ⟨fi, hfi⟩ : ∃ fi, f i = fi := ⟨_, rfl⟩
  rw [hfi] at c4 hf hr
  have hrH := Lib.hid hr
  have hvH := Lib.hid hv
  have hw1 : IntKind.i64.wrap (e.s - fi) = e.s - fi := IntWalk.i64_in _ ⟨by omega, by omega⟩
  have hw2 : IntKind.i64.wrap (e.s + fi) = e.s + fi := IntWalk.i64_in _ ⟨by omega, by omega⟩
  clear h hB he hbc hr hv hfi
  by_cases ha : e.a = u
  · have hres : e.s - fi = r ∧ e.b = v := by
      have h1 := hrH.out
      have h2 := hvH.out
      rw [rs, if_pos ha] at h1
      rw [if_pos ha] at h2
      exact ⟨h1, h2⟩
    have hresH := Lib.hid hres
    have haI : ((e.a : Int) == (u : Int)) = true := by simp; omega
    clear hres ha
    go_enter Tryz.func163, Tryz.ntmps163
    go_wp2
    refine wp_region_ord [(0, .q), (1, .q), (2, .q), (3, .q), (4, .q), (5, .q), (6, .q), (7, .q), (8, .q), (9, .q), (10, .q), (11, .q), (12, .q), (13, .q)] (by kernel_rfl) (by kernel_rfl) ?_
    simp only [pick, List.filterMap_cons, List.filterMap_nil, List.getElem?_toArray, List.getElem?_cons_zero, List.getElem?_cons_succ, Option.map_some]
    repeat (first | ((with_reducible refine wpD_p (fun K hK => ?_)); go_simp; refine hK _ ?_; clear hK K) | ((with_reducible refine wpD_q (fun K hK => ?_)); go_simp; (first | refine hK _ ?_ | (go_bits; refine hK _ ?_) | (go_bits; go_simp; refine hK _ ?_)); clear hK K))
    with_reducible refine wpD_nil ?_
    go_wp2
    go_ret2
    rw [← hresH.out.1, ← hresH.out.2]
    exact ⟨rfl, by exact bel_⟩
  · have hres : e.s + fi = r ∧ e.a = v := by
      have h1 := hrH.out
      have h2 := hvH.out
      rw [rs, if_neg ha] at h1
      rw [if_neg ha] at h2
      exact ⟨h1, h2⟩
    have hresH := Lib.hid hres
    have haI : ((e.a : Int) == (u : Int)) = false := by simp; omega
    clear hres ha
    go_enter Tryz.func163, Tryz.ntmps163
    go_wp2
    refine wp_region_ord [(0, .q), (1, .q), (2, .q), (3, .q), (4, .q), (5, .q), (6, .q), (7, .q), (8, .q), (9, .q), (10, .q), (11, .q), (12, .q), (13, .q)] (by kernel_rfl) (by kernel_rfl) ?_
    simp only [pick, List.filterMap_cons, List.filterMap_nil, List.getElem?_toArray, List.getElem?_cons_zero, List.getElem?_cons_succ, Option.map_some]
    repeat (first | ((with_reducible refine wpD_p (fun K hK => ?_)); go_simp; refine hK _ ?_; clear hK K) | ((with_reducible refine wpD_q (fun K hK => ?_)); go_simp; (first | refine hK _ ?_ | (go_bits; refine hK _ ?_) | (go_bits; go_simp; refine hK _ ?_)); clear hK K))
    with_reducible refine wpD_nil ?_
    go_wp2
    go_ret2
    rw [← hresH.out.1, ← hresH.out.2]
    exact ⟨rfl, by exact bel_⟩
def PushRes (w0 w : World) (p n gF : Nat) (B : Option Addr) (m c k : Nat) (bs : List Bd) (f : Nat → Int) (vA : Value) (uA : List Value) (x : Ending) (w' : World) : Prop := x = .returned (.tuple #[]) ∧ SNet w0 w' p n gF B m c k bs f vA uA ∧ w.grownBy w' (some gF)
set_option maxRecDepth 100000 in
set_option maxHeartbeats 1000000 in
theorem push_any {w0 : World} (p n gF : Nat) (B : Option Addr) (m c k u i : Nat) (bs : List Bd) (f : Nat → Int) (vA : Value) (uA : List Value) (e : Bd) (w : World) (h : SNet w0 w p n gF B m c k bs f vA uA) (hB : RdSl 3 RBd w0 B m bs) (he : bs[i]? = some e) (hs : 0 < e.s ∧ e.s ≤ 4) (hf : -e.s ≤ f i ∧ f i ≤ e.s) :
    Calls Tryz.prog 164 #[.pointer (some ⟨p, 0, none⟩), .int .i64 (u : Int), .int .i64 (i : Int)] w (PushRes w0 w p n gF B m c k bs (fun j => if j = i then (if e.a = u then f i + 1 else f i - 1) else f j) vA uA) := by
  have him : i < m := by rw [← hB.len]; exact (List.getElem?_eq_some_iff.1 he).1
  obtain ⟨bb, ob, rfl, hbb, hbc⟩ := (hB.below RBd.stable h.bw).ptr (by omega)
  obtain ⟨e0, e1, e2⟩ := hbc i e he
  have hH := Lib.hid h
  have c1 := h.c1
  have c3 := h.c3
  have l0 := h.lt
  have c4 := h.fl.cell him
  have f4 := h.fl.frozen i
  have l1 := h.fl.lt
  obtain ⟨fi, hfi⟩ : ∃ fi, f i = fi := ⟨_, rfl⟩
  rw [hfi] at c4 hf ⊢
  have hw1 : IntKind.i64.wrap (fi - 1) = fi - 1 := IntWalk.i64_in _ ⟨by omega, by omega⟩
  have hw2 : IntKind.i64.wrap (fi + 1) = fi + 1 := IntWalk.i64_in _ ⟨by omega, by omega⟩
  clear h hB he hbc hfi
  by_cases ha : e.a = u
  · rw [if_pos ha]
    have haI : ((e.a : Int) == (u : Int)) = true := by simp; omega
    clear ha
    go_enter Tryz.func164, Tryz.ntmps164
    go_wp2
    go_end0
    exact ⟨rfl, hH.out.store i (fi + 1), ⟨rfl, rfl, rfl, by simp, fun j hj hne => Below.heap_setCell _ _ _ _ (fun e => hne (by rw [e]))⟩⟩
  · rw [if_neg ha]
    have haI : ((e.a : Int) == (u : Int)) = false := by simp; omega
    clear ha
    go_enter Tryz.func164, Tryz.ntmps164
    go_wp2
    go_end0
    exact ⟨rfl, hH.out.store i (fi - 1), ⟨rfl, rfl, rfl, by simp, fun j hj hne => Below.heap_setCell _ _ _ _ (fun e => hne (by rw [e]))⟩⟩
end Go.Proofs.YthieodccakphiaaGreat
