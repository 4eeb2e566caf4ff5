import Derived.WalkKit
import Derived.Conc.LoneCalls
import Derived.Conc.LoneSelectN
import Derived.Test.YtmhgjgclclnmaaaGreatBase2
import Derived.Test.YtmhgjgclclnmaaaGreatOrdApp
import Derived.Test.YtmhgjgclclnmaaaGreatShelf
import Derived.Laws.CopyOwn
import Derived.IntWalk
import Derived.Test.YtmhgjgclclnmaaaGreatKN
import Derived.Test.YtmhgjgclclnmaaaGreatW17a
import Derived.Laws.OwnMore
import Derived.Test.YtmhgjgclclnmaaaGreatW20a
import Derived.Test.YtmhgjgclclnmaaaGreatP7
import Derived.Deep.CutRange
import Derived.Test.YtmhgjgclclnmaaaGreatP8
import Derived.Maps.AppendAt
import Derived.Test.YtmhgjgclclnmaaaGreatHTo
import Derived.Test.YtmhgjgclclnmaaaGreatP9
set_option linter.unusedSimpArgs false
set_option linter.unusedVariables false
/- Rules for the walk: a channel with a buffer in one goroutine: a send into room, a receive of what lies there, how many lie there. -/



namespace Go.Proofs.YtmhgjgclclnmaaaGreat
open Go.RowKit Go.Conc
section
variable {P : Program} {b : Frame} {a : Act} {k : List Item} {cs : List Frame} {w : World} {ops : Array Oper}
theorem wanted_none {o : Oper} (hg : o.guard = none) (a : Act) : Region.wanted o (yielded ops a.tmps) = true := by simp [Region.wanted, hg]
/-- an operation that yields a value -/
theorem step_op_value {i : Nat} {rest : List Nat} {o : Oper} {v : Value} {w' : World} (ho : ops[i]? = some o) (hg : o.guard = none) (hr : (execOp a.eval o).run P w = .ok (.value v) w') :
    step P (lone (b.at a (.inRegion ops (i :: rest) :: k)) cs w) = .next (lone (b.at (a.put o.dst v) (.inRegion ops rest :: k)) cs w') := by
  have hfin : (b.at a (.inRegion ops (i :: rest) :: k)).finish v = b.at (a.put o.dst v) (.inRegion ops rest :: k) := by
    rw [Frame.finish_at, ho]; rfl
  refine step_lone_go ?_
  rw [stepG_op ho (wanted_none hg a), ← hfin]
  simp [stepG.apply, hr]
/-- an operation that is a communication: whatever the frame -/
theorem stepG_comm' {i : Nat} {rest : List Nat} {o : Oper} {cases : Array CommCase} {blocking : Bool} {shape : CommShape} {w' : World} (ho : ops[i]? = some o) (hg : o.guard = none)
    (hr : (execOp a.eval o).run P w = .ok (.comm cases blocking shape) w') :
    ∃ es, stepG P true (G (b.at a (.inRegion ops (i :: rest) :: k)) cs) w = .comm (G (b.at a (.inRegion ops (i :: rest) :: k)) cs) cases blocking shape w' es := by
  rw [stepG_oper ho (wanted_none hg a)]
  by_cases hk : (b.kind == CallKind.early) = true
  · exact ⟨_, by simp [stepG.apply, hr, G, Frame.at, hk, GStep.after]; rfl⟩
  · have hk' : (b.kind == CallKind.early) = false := by simpa using hk
    exact ⟨_, by simp [stepG.apply, hr, G, Frame.at, hk', GStep.after]; rfl⟩
theorem step_op_send {i : Nat} {rest : List Nat} {o : Oper} {c cap s r : Nat} {buf : Array Value} {v z : Value} {tm : Bool} (ho : ops[i]? = some o) (hg : o.guard = none)
    (hr : (execOp a.eval o).run P w = .ok (.comm #[scase c v z] true .send) w) (hc : w.heap[c]? = some (.chan cap buf false s r tm)) (hroom : buf.size < cap) :
    step P (lone (b.at a (.inRegion ops (i :: rest) :: k)) cs w) = .next (lone (b.at (a.put o.dst undef) (.inRegion ops rest :: k)) cs (w.setChan c cap (buf.push v) false (s + 1) r tm)) := by
  obtain ⟨es, he⟩ := stepG_comm' (b := b) (k := k) (cs := cs) (rest := rest) ho hg hr
  have := step_lone_send_room he hc hroom
  rw [Frame.finish_at, ho] at this
  exact this
theorem step_op_recv {i : Nat} {rest : List Nat} {o : Oper} {c cap s r : Nat} {buf : Array Value} {z : Value} {tm closed : Bool} (ho : ops[i]? = some o) (hg : o.guard = none)
    (hr : (execOp a.eval o).run P w = .ok (.comm #[rcase c z] true (.recv false)) w) (hc : w.heap[c]? = some (.chan cap buf closed s r tm)) (hsome : 0 < buf.size) :
    step P (lone (b.at a (.inRegion ops (i :: rest) :: k)) cs w) = .next (lone (b.at (a.put o.dst (buf.getD 0 undef)) (.inRegion ops rest :: k)) cs (w.setChan c cap (buf.extract 1 buf.size) closed s (r + 1) tm)) := by
  obtain ⟨es, he⟩ := stepG_comm' (b := b) (k := k) (cs := cs) (rest := rest) ho hg hr
  have := step_lone_recv_buf false he hc hsome
  rw [Frame.finish_at, ho] at this
  exact this
theorem run_move {o : Oper} {x : Operand} (h : o.op = .move x) : (execOp a.eval o).run P w = .ok (.value (a.eval x)) w := by
  unfold execOp
  simp only [h]
  rfl
theorem run_assign {o : Oper} {x : Operand} (h : o.op = .assign x) : (execOp a.eval o).run P w = .ok (.value (a.eval x)) w := by
  unfold execOp
  simp only [h]
  rfl
theorem run_send {o : Oper} {x y : Operand} {c : Nat} (h : o.op = .send x y) (hx : a.eval x = .chan (some c)) : (execOp a.eval o).run P w = .ok (.comm #[scase c (a.eval y) (.tuple #[])] true .send) w := by
  unfold execOp
  simp only [h, hx, scase]
  rfl
theorem run_recv {o : Oper} {t e : TypeId} {x : Operand} {c : Nat} {z : Value} {dir : ChanDir} (h : o.op = .recv t x false) (hx : a.eval x = .chan (some c)) (ht : P.underlying t = some (.chan dir e)) (hz : ∀ W, (zeroValue e).run P W = .ok z W) :
    (execOp a.eval o).run P w = .ok (.comm #[rcase c z] true (.recv false)) w := by
  unfold execOp
  simp only [h, hx, rcase]
  simp [run_underlying ht, hz, Sem.run_bind]
theorem grown_setChan (w : World) (c cap : Nat) (buf : Array Value) (cl : Bool) (s r : Nat) (tm : Bool) : w.grownBy (w.setChan c cap buf cl s r tm) (some c) :=
  ⟨rfl, rfl, rfl, by simp [World.setChan], fun k hk hne => by
    simp only [World.setChan]
    exact Array.getElem?_setIfInBounds_ne (fun e => hne (by rw [e]))⟩
theorem lt_of_heap {w : World} {c : Nat} {o : Obj} (h : w.heap[c]? = some o) : c < w.heap.size := (Array.getElem?_eq_some_iff.1 h).1
/-- 'c <- x': two moves and the send -/
theorem wp_region_send {id c cap s r : Nat} {o0 o1 o2 : Oper} {x0 x1 x2 y2 : Operand} {buf : Array Value} {tm : Bool} {v : Value} {Q : Exit → Act → World → Prop}
    (g0 : o0.guard = none) (g1 : o1.guard = none) (g2 : o2.guard = none) (h0 : o0.op = .move x0) (h1 : o1.op = .move x1) (h2 : o2.op = .send x2 y2)
    (hx : (((a.put o0.dst (a.eval x0)).put o1.dst ((a.put o0.dst (a.eval x0)).eval x1))).eval x2 = .chan (some c)) (hv : (((a.put o0.dst (a.eval x0)).put o1.dst ((a.put o0.dst (a.eval x0)).eval x1))).eval y2 = v)
    (hc : w.heap[c]? = some (.chan cap buf false s r tm)) (hroom : buf.size < cap)
    (h : ∀ w', w'.heap[c]? = some (.chan cap (buf.push v) false (s + 1) r tm) → w.grownBy w' (some c) → ∀ K : Act → Prop, (∀ a', Q .normal a' w' → K a') →
      K ((((a.put o0.dst (a.eval x0)).put o1.dst ((a.put o0.dst (a.eval x0)).eval x1))).put o2.dst undef)) :
    (Code.region id #[o0, o1, o2] false).wp P Q a w := by
  intro b k cs
  have hk := h _ (heap_setChan w c cap (buf.push v) false (s + 1) r tm (lt_of_heap hc)) (grown_setChan _ _ _ _ _ _ _ _) _ (fun _ x => x)
  refine ⟨.normal, _, _, hk, ?_⟩
  refine Steps.head step_region ?_
  rw [show (List.range (#[o0, o1, o2] : Array Oper).size) = [0, 1, 2] from rfl]
  refine Steps.head (step_op_value (o := o0) rfl g0 (run_move h0)) ?_
  refine Steps.head (step_op_value (o := o1) rfl g1 (run_move h1)) ?_
  have hs := run_send (P := P) (w := w) h2 hx
  rw [hv] at hs
  refine Steps.head (step_op_send (o := o2) rfl g2 hs hc hroom) ?_
  exact Steps.head step_region_end (Steps.refl _ _)
/-- 'x := <-c' -/
theorem wp_region_recv {id c cap s r : Nat} {o0 o1 o2 : Oper} {x0 x1 x2 : Operand} {t e : TypeId} {dir : ChanDir} {z v : Value} {buf : Array Value} {tm closed : Bool} {Q : Exit → Act → World → Prop}
    (g0 : o0.guard = none) (g1 : o1.guard = none) (g2 : o2.guard = none) (h0 : o0.op = .move x0) (h1 : o1.op = .recv t x1 false) (h2 : o2.op = .assign x2)
    (ht : P.underlying t = some (.chan dir e)) (hz : ∀ W, (zeroValue e).run P W = .ok z W)
    (hx : (a.put o0.dst (a.eval x0)).eval x1 = .chan (some c)) (hc : w.heap[c]? = some (.chan cap buf closed s r tm)) (hv : buf[0]? = some v)
    (h : ∀ w', w'.heap[c]? = some (.chan cap (buf.extract 1 buf.size) closed s (r + 1) tm) → w.grownBy w' (some c) → ∀ K : Act → Prop, (∀ a', Q .normal a' w' → K a') →
      K ((((a.put o0.dst (a.eval x0)).put o1.dst v)).put o2.dst ((((a.put o0.dst (a.eval x0)).put o1.dst v)).eval x2))) :
    (Code.region id #[o0, o1, o2] false).wp P Q a w := by
  have hsome : 0 < buf.size := (Array.getElem?_eq_some_iff.1 hv).1
  have hget : buf.getD 0 undef = v := by simp [Array.getD_eq_getD_getElem?, hv]
  intro b k cs
  have hk := h _ (heap_setChan w c cap (buf.extract 1 buf.size) closed s (r + 1) tm (lt_of_heap hc)) (grown_setChan _ _ _ _ _ _ _ _) _ (fun _ x => x)
  refine ⟨.normal, _, _, hk, ?_⟩
  refine Steps.head step_region ?_
  rw [show (List.range (#[o0, o1, o2] : Array Oper).size) = [0, 1, 2] from rfl]
  refine Steps.head (step_op_value (o := o0) rfl g0 (run_move h0)) ?_
  have hr := step_op_recv (b := b) (k := k) (cs := cs) (rest := [2]) (i := 1) (ops := #[o0, o1, o2]) (o := o1) rfl g1 (run_recv h1 hx ht hz) hc hsome
  rw [hget] at hr
  refine Steps.head hr ?_
  refine Steps.head (step_op_value (o := o2) rfl g2 (run_assign h2)) ?_
  exact Steps.head step_region_end (Steps.refl _ _)
end
end Go.Proofs.YtmhgjgclclnmaaaGreat
/- Walks: slices.Repeat of one number. -/





namespace Go.Proofs.YtmhgjgclclnmaaaGreat
open Go.RowKit Go.Shelf
attribute [local go_sem] BelowBy.cell BelowBy.cell_drew stillUpon givesUpon

section
variable {P : Program} {ops : Array Oper}
theorem wpD_copy {o : Oper} {rest : List (Oper × Tag)} {a : Act} {w : World} {Q : Act → World → Prop} (hgd : o.guard = none) (d s : Operand) (dT sT : TypeId)
    (ho : o.op = .call { callee := .builtin .copy, args := #[d, s], argTypes := #[dT, sT] }) (elem : TypeId) (hu : P.underlying dT = some (.slice elem)) (hsz : (P.info? elem).map (·.size) = some 1)
    (g off dLen dCap : Nat) (ad : Addr) (sLen sCap : Nat) (hd : a.eval d = .slice (some ⟨g, off, none⟩) dLen dCap) (hs : a.eval s = .slice (some ad) sLen sCap)
    (cur : Array Value) (t : TypeId) (hg : w.heap[g]? = some (.cells cur t (0, 0))) (cs : List Value) (hn : cs.length = Nat.min sLen dLen)
    (hsrc : ∀ j v, cs[j]? = some v → w.cell? (ad.add j) = some v) (hfit : off + cs.length ≤ cur.size) (h1 : ∀ v ∈ cs, v.oneCell' = true)
    (h : wpD P ops Q rest (a.put o.dst (goInt cs.length)) (w.setRow g (cur.toList.take off ++ cs ++ cur.toList.drop (off + cs.length)).toArray)) : wpD P ops Q ((o, .b) :: rest) a w := by
  refine wpD_b fun K hK => ?_
  have hw : Region.wanted o (yielded ops a.tmps) = true := by simp [Region.wanted, hgd]
  rw [if_pos hw]
  have hrun := run_copy_row (P := P) w dT sT o.type elem g off dLen dCap ad sLen sCap cur t cs hu hsz hg hn hsrc hfit h1
  unfold execOp
  simp only [ho, resolve, invoke, builtin, Sem.run_bind, Sem.run_pure, Result.andThen_ok, List.map_toArray, List.map_cons, List.map_nil, hd, hs, hrun]
  exact hK _ _ h
end
/-- m numbers x, the rest are 0 -/
def repCells (x : Int) (m n : Nat) : List Value := List.replicate m (.int .i64 x) ++ List.replicate (n - m) (.int .i64 0)
theorem repCells_len {x : Int} {m n : Nat} (h : m ≤ n) : (repCells x m n).length = n := by simp [repCells]; omega
theorem repCells_get {x : Int} {m n k : Nat} (h : k < m) : (repCells x m n)[k]? = some (.int .i64 x) := by
  unfold repCells
  rw [List.getElem?_append_left (by simpa using h)]
  simp [h]
theorem repCells_more {x : Int} {m n c : Nat} (h : m + c ≤ n) : (repCells x m n).take m ++ List.replicate c (.int .i64 x) ++ (repCells x m n).drop (m + c) = repCells x (m + c) n := by
  unfold repCells
  rw [List.take_left' (by simp), List.drop_append, List.drop_eq_nil_of_le (by simp), List.length_replicate, List.nil_append, List.drop_replicate, List.replicate_append_replicate]
  congr 2
  omega
theorem madeCells_rep (n : Nat) : madeCells #[Value.int .i64 0] n = (repCells (-1) 0 n).toArray := by
  apply Array.ext
  · rw [size_madeCells]; simp [repCells]
  · intro i h1 h2
    rw [size_madeCells] at h1
    simp [madeCells, repCells, Nat.mod_one]
theorem infoInt1 : (Tryz.prog.info? 3).map (fun i => (i.zero, i.size, i.bytes)) = some (some (.int .i64 0), 1, 8) := by kernel_rfl
theorem sizeInt1 : (Tryz.prog.info? 3).map (·.size) = some 1 := by kernel_rfl
theorem mul_one_any (n : Nat) (w : World) (h : n ≤ 100000) : Calls Tryz.prog 192 #[.int .u64 1, .int .u64 (n : Int)] w fun e w' => e = .returned (.tuple #[.int .u64 0, .int .u64 (n : Int)]) ∧ w = w' := by
  refine (Tryz.bits_Mul 1 n (by omega) (by omega) w).mono ?_
  rintro e w' ⟨rfl, rfl⟩
  refine ⟨?_, rfl⟩
  rw [Nat.one_mul, Nat.div_eq_of_lt (by omega), Nat.mod_eq_of_lt (by omega)]
  rfl
set_option maxRecDepth 100000 in
set_option maxHeartbeats 1000000 in
theorem Repeat_any (b n : Nat) (w : World) (h1 : 1 ≤ n) (h2 : n ≤ 100000) (hb : b < w.heap.size) (hc : w.cell? ⟨b, 0, none⟩ = some (.int .i64 (-1))) :
    Calls Tryz.prog 149 #[.slice (some ⟨b, 0, none⟩) 1 1, .int .i64 (n : Int)] w fun e w' => ∃ g, e = .returned (.slice (some ⟨g, 0, none⟩) n n) ∧ w.heap.size ≤ g ∧ w'.rowIs g 3 n (fun _ => .int .i64 (-1)) ∧ Below w.heap.size w w' := by
  have hmk : ∀ W : World, (Instr.makeSlice 169 (.int .i64 (n : Int)) (.int .i64 (n : Int))).run Tryz.prog W = .ok (.slice (some ⟨W.heap.size, 0, none⟩) n n) (W.alloc (.cells (repCells (-1) 0 n).toArray 3)) := fun W => by
    have := run_makeN (P := Tryz.prog) 169 3 _ 1 8 Tryz.underlying169 infoInt1 n (by omega) (by omega) W
    rw [this, Nat.mul_one, ← madeCells_rep]
    rfl
  have hsp : ∀ m c, m + c ≤ n → splice (repCells (-1) m n) m (List.replicate c (.int .i64 (-1))) = repCells (-1) (m + c) n := fun m c h => by
    rw [← repCells_more h]
    simp [splice]
  have hspH := Lib.hid hsp
  have hsrc : Hid (∀ (o : Obj) (j : Nat) (v : Value), (List.replicate 1 (Value.int .i64 (-1)))[j]? = some v → (w.alloc o).cell? ((⟨b, 0, none⟩ : Addr).add j) = some v) := Lib.hid fun o j v hj => by
    have hj0 : j = 0 := by
      have := (List.getElem?_eq_some_iff.1 hj).1
      simp at this
      exact this
    subst hj0
    simp at hj
    subst hj
    exact (World.cell?_alloc_lt _ _ _ hb).trans hc
  have hcH := Lib.hid hc
  clear hsp
  go_enter Tryz.func149, Tryz.ntmps149
  go_wp2_with (first | (go_at_call 192; refine (mul_one_any n _ h2).mono ?_; rintro e w' ⟨rfl, rfl⟩) | ((refine wpList_copy_splice (o := ⟨some 33, _, _, _, _, _⟩) rfl (.tmp 31) (.tmp 32) 169 169 rfl 3 Tryz.underlying169 sizeInt1 (some ⟨w.heap.size, 0, none⟩) (some ⟨b, 0, none⟩) n n 1 1 (by rfl) (by rfl) w.heap.size 0 (repCells (-1) 0 n) 3 (heap_alloc_new _ _) (List.replicate 1 (.int .i64 (-1))) (by simp only [List.length_replicate]; exact (Nat.min_eq_left h1).symm) (fun _ => ⟨rfl, ⟨b, 0, none⟩, rfl, hsrc.out _⟩) (by rw [repCells_len (by omega)]; simp; omega) (fun v hv => by simp at hv; subst hv; rfl) w.heap.size w (bl_al (bl_refl _) _) (Nat.le_refl _) ?_); intro w1 hg1 hb1; have hg2 := hg1.out; rw [hspH.out 0 1 (by omega)] at hg2; have hg1 := Lib.hid hg2; clear hg2; have hb1 := Lib.hid hb1))
  go_loopg [8] (n - 1) (fun g x wr => ∃ m : Nat, m + g = n ∧ x = .int .i64 (m : Int) ∧ 1 ≤ m ∧ Hid (wr.heap[w.heap.size]? = some (.cells (repCells (-1) m n).toArray 3 (0, 0))) ∧ Hid (Below w.heap.size w wr))
  case atStart => exact ⟨1, by omega, rfl, Nat.le_refl _, hg1, hb1⟩
  case round =>
    clear hg1 hb1
    obtain ⟨m, hm, rfl, hm1, hg, hb⟩ := hrel
    by_cases hmn : m < n
    · obtain ⟨c, hc⟩ : ∃ c, min m (n - m) = c := ⟨_, rfl⟩
      have hcH := Lib.hid hc
      have hc1 : 1 ≤ c := by omega
      have hc2 : m + c ≤ n := by omega
      have hsrc : Hid (∀ (j : Nat) (v : Value), (List.replicate c (Value.int .i64 (-1)))[j]? = some v → wr.drew.cell? ((⟨w.heap.size, 0, none⟩ : Addr).add j) = some v) := Lib.hid fun j v hj => by
        have hj0 := (List.getElem?_eq_some_iff.1 hj).1
        rw [List.length_replicate] at hj0
        rw [List.getElem?_replicate, if_pos hj0] at hj
        obtain rfl := Option.some.inj hj
        rw [Addr.add_lit, Nat.zero_add]
        have := repCells_get (x := -1) (n := n) (k := j) (m := m) (by omega)
        show wr.cell? ⟨w.heap.size, j, none⟩ = _
        simp only [World.cell?, hg.out]
        simpa using this
      have hwr : IntKind.i64.wrap ((m : Int) + (c : Int)) = (m : Int) + (c : Int) := IntWalk.i64_in _ ⟨by omega, by omega⟩
      have k1 : ¬ (m = n) := by omega
      have k2 : ¬ (n = m) := by omega
      have k3 : m ≤ n := by omega
      clear hc
      go_wp2
      refine wp_region_ord [(0, .p), (1, .q), (2, .q), (3, .q), (4, .q), (5, .q), (6, .q), (7, .b), (8, .q), (9, .q)] (by kernel_rfl) (by kernel_rfl) ?_
      simp only [pick, List.filterMap_cons, List.filterMap_nil, List.getElem?_toArray, List.getElem?_cons_zero, List.getElem?_cons_succ, Option.map_some]
      repeat (first | ((with_reducible refine wpD_p (fun K hK => ?_)); go_simp; refine hK _ ?_; clear hK K) | ((with_reducible refine wpD_q (fun K hK => ?_)); go_simp; (first | refine hK _ ?_ | (go_bits; refine hK _ ?_) | (go_bits; go_simp; refine hK _ ?_)); clear hK K))
      refine wpD_copy rfl _ _ 169 169 rfl 3 Tryz.underlying169 sizeInt1 w.heap.size m (n - m) (n - m) ⟨w.heap.size, 0, none⟩ m n (by go_simp) (by go_simp) (repCells (-1) m n).toArray 3 hg.out (List.replicate c (.int .i64 (-1))) (by rw [List.length_replicate]; exact hcH.out.symm) hsrc.out (by rw [List.length_replicate, List.size_toArray, repCells_len (by omega)]; exact hc2) (fun v hv => by simp at hv; rw [hv.2]; rfl) ?_
      rw [show (repCells (-1) m n).toArray.toList.take m ++ List.replicate c (Value.int .i64 (-1)) ++ (repCells (-1) m n).toArray.toList.drop (m + (List.replicate c (Value.int .i64 (-1))).length) = repCells (-1) (m + c) n by rw [List.length_replicate]; exact repCells_more hc2, List.length_replicate]
      repeat (first | ((with_reducible refine wpD_p (fun K hK => ?_)); go_simp; refine hK _ ?_; clear hK K) | ((with_reducible refine wpD_q (fun K hK => ?_)); go_simp; (first | refine hK _ ?_ | (go_bits; refine hK _ ?_) | (go_bits; go_simp; refine hK _ ?_)); clear hK K))
      with_reducible refine wpD_nil ?_
      go_wp2
      go_roundg (n - (m + c))
      case measure => omega
      case rel => exact ⟨m + c, Nat.add_sub_cancel' hc2, by go_num, Nat.le_trans hm1 (Nat.le_add_right _ _), Lib.hid (setRow_heap _ _ _ _ _ _ hg.out), Lib.hid (below_setRow hb.out.drew (Nat.le_refl _) _)⟩
    · obtain rfl : m = n := by omega
      go_wp2
      go_ret
      exact ⟨w.heap.size, rfl, Nat.le_refl _, ⟨_, hg.out, by simp [repCells], fun i hi => by have := repCells_get (x := -1) (n := m) hi; simpa using this⟩, hb.out⟩
end Go.Proofs.YtmhgjgclclnmaaaGreat
/- The network of capacities and flows in memory; whether there is room. -/


namespace Go.Proofs.YtmhgjgclclnmaaaGreat
open Go.RowKit Go.Shelf
attribute [local go_sem] BelowBy.cell BelowBy.cell_drew stillUpon givesUpon BelowBy.cell_drew2 BelowBy.cell_drew3

def rowZ (M : Nat → Nat → Int) (n u : Nat) : List Value := (List.range n).map fun v => Value.int .i64 (M u v)
theorem rowZ_len (M : Nat → Nat → Int) (n u : Nat) : (rowZ M n u).length = n := by simp [rowZ]
theorem rowZ_get {M : Nat → Nat → Int} {n u v : Nat} (h : v < n) : (rowZ M n u)[v]? = some (.int .i64 (M u v)) := by simp [rowZ, h]
def rowsZ (M : Nat → Nat → Int) (n m : Nat) : List (List Value) := (List.range m).map (rowZ M n)
theorem rowsZ_len (M : Nat → Nat → Int) (n m : Nat) : (rowsZ M n m).length = m := by simp [rowsZ]
theorem rowsZ_get {M : Nat → Nat → Int} {n m u : Nat} (h : u < m) : (rowsZ M n m)[u]? = some (rowZ M n u) := by simp [rowsZ, h]
/-- a square of numbers: v owns n rows of n numbers -/
def Mat (w : World) (base : Nat) (v : Value) (us : List Value) (n : Nat) (M : Nat → Nat → Int) : Prop := Own2 w base 33 2 1 v us (rowsZ M n n)
theorem Mat.len {w : World} {base n : Nat} {v : Value} {us : List Value} {M : Nat → Nat → Int} (h : Mat w base v us n M) : us.length = n := (Own2.len h).trans (rowsZ_len _ _ _)
theorem Mat.at {w : World} {base n u : Nat} {v : Value} {us : List Value} {M : Nat → Nat → Int} (h : Mat w base v us n M) (hu : u < n) :
    ∃ g cap g' cap', v = .slice (some ⟨g, 0, none⟩) n cap ∧ w.cell? ⟨g, u, none⟩ = some (.slice (some ⟨g', 0, none⟩) n cap') ∧ g < w.heap.size ∧ g' < w.heap.size ∧ base ≤ g ∧ base ≤ g' ∧ us[u]? = some (.slice (some ⟨g', 0, none⟩) n cap') ∧
      w.ownsRow base 2 1 (.slice (some ⟨g', 0, none⟩) n cap') n (rowZ M n u) ∧ ∀ j, j < n → w.cell? ⟨g', j, none⟩ = some (.int .i64 (M u j)) := by
  have hl := h.len
  obtain ⟨g, cap, rfl⟩ := Own2.formPos h hl (by omega)
  obtain ⟨x, hx⟩ : ∃ x, us[u]? = some x := ⟨_, List.getElem?_eq_getElem (by omega)⟩
  obtain ⟨m, r, hr, hown⟩ := Own2.get h hx
  rw [rowsZ_get hu] at hr
  obtain rfl := Option.some.inj hr
  have hm := hown.1
  rw [rowZ_len, Nat.mul_one] at hm
  subst hm
  rcases hown.2 with ⟨_, h0⟩ | ⟨g', cap', cur, rfl, hb, hh, _⟩
  · omega
  · have hc := Own2.cellAt h hl hx
    exact ⟨g, cap, g', cap', rfl, hc.1, hc.2.2, (Array.getElem?_eq_some_iff.1 hh).1, (Own2.lt h g rfl).1, hb, hx, hown, fun j hj => (hown.cellAt j (by omega)).trans (rowZ_get hj)⟩
/-- the blocks of a square -/
def InMat (v : Value) (us : List Value) (g : Nat) : Prop := v.ownBlock = some g ∨ ∃ (k : Nat) (u : Value), us[k]? = some u ∧ u.ownBlock = some g
theorem Mat.lt {w : World} {base n g : Nat} {v : Value} {us : List Value} {M : Nat → Nat → Int} (h : Mat w base v us n M) (hg : InMat v us g) : base ≤ g ∧ g < w.heap.size := by
  rcases hg with hg | ⟨k, u, hu, hg⟩
  · exact Own2.lt h g hg
  · exact Own2.ltIn h hu g hg
theorem Mat.kept {w w' : World} {base n : Nat} {v : Value} {us : List Value} {M : Nat → Nat → Int} {row : Option Nat} (h : Mat w base v us n M) (hg : w.grownBy w' row) (h1 : ∀ g, row = some g → ¬ InMat v us g) : Mat w' base v us n M :=
  Own2.kept h hg fun g e => ⟨fun e' => h1 g e (.inl e'), fun k u hu e' => h1 g e (.inr ⟨k, u, hu, e'⟩)⟩
/-- one number of it is stored -/
theorem Mat.store {w : World} {base n u j g' cap' : Nat} {v : Value} {us : List Value} {M : Nat → Nat → Int} (h : Mat w base v us n M) (hu : u < n) (hx : us[u]? = some (.slice (some ⟨g', 0, none⟩) n cap')) (x : Int) :
    Mat (w.setCell ⟨g', j, none⟩ (.int .i64 x)) base v us n (fun a b => if a = u ∧ b = j then x else M a b) := by
  have hgn : w.grownBy (w.setCell ⟨g', j, none⟩ (.int .i64 x)) (some g') := ⟨rfl, rfl, rfl, by simp, fun i hi hne => Below.heap_setCell _ _ _ _ (fun e => hne (by rw [e]))⟩
  refine ⟨Own2.outer h |>.kept hgn (.inr fun e => Own2.off h u _ g' hx rfl e), by rw [Own2.len h, rowsZ_len, rowsZ_len], fun k y r hy hr => ?_, Own2.apart h, Own2.off h⟩
  have hkn : k < n := by have := (List.getElem?_eq_some_iff.1 hy).1; rw [h.len] at this; exact this
  rw [rowsZ_get hkn] at hr
  obtain rfl := Option.some.inj hr
  obtain ⟨m, hown⟩ := Own2.inner h k y _ hy (rowsZ_get hkn)
  by_cases e : k = u
  · subst e
    rw [hx] at hy
    obtain rfl := Option.some.inj hy
    have hm := hown.1
    rw [rowZ_len, Nat.mul_one] at hm
    subst hm
    refine ⟨n, ?_⟩
    have hs := (hown.stored j (.int .i64 x)).1
    have : (rowZ M n k).set j (.int .i64 x) = rowZ (fun a b => if a = k ∧ b = j then x else M a b) n k := by
      apply List.ext_getElem?
      intro t
      rw [List.getElem?_set, rowZ_len]
      by_cases htn : t < n
      · rw [rowZ_get htn, rowZ_get htn]
        by_cases et : j = t
        · subst et; simp [htn]
        · rw [if_neg et, if_neg (fun c => et c.2.symm)]
      · rw [List.getElem?_eq_none (by rw [rowZ_len]; omega), List.getElem?_eq_none (by rw [rowZ_len]; omega)]
        split
        · rw [if_neg (by omega)]
        · rfl
    rw [this] at hs
    exact hs
  · refine ⟨m, ?_⟩
    have : rowZ (fun a b => if a = u ∧ b = j then x else M a b) n k = rowZ M n k := by
      unfold rowZ
      apply List.map_congr_left
      intro b _
      simp only [e, false_and, if_false]
    rw [this]
    refine hown.kept hgn ?_
    cases hb : y.ownBlock with
    | none => exact .inl rfl
    | some b => exact .inr fun e' => e (Own2.apart h k u y _ b hy hx hb (by rw [e']; rfl))
/-- the network: capacities R and flows F between n points -/
structure Net (w : World) (base p n : Nat) (R F : Nat → Nat → Int) (vR vF : Value) (uR uF : List Value) : Prop where
  lt : p < w.heap.size
  ge : base ≤ p
  room : w.cell? ⟨p, 0, none⟩ = some vR
  flow : w.cell? ⟨p, 1, none⟩ = some vF
  fr : w.frozen? ⟨p, 0, none⟩ = false ∧ w.frozen? ⟨p, 1, none⟩ = false
  R : Mat w base vR uR n R
  F : Mat w base vF uF n F
  off : ∀ g, InMat vR uR g → ¬ InMat vF uF g
  offp : ¬ InMat vR uR p ∧ ¬ InMat vF uF p
theorem Net.kept {w w' : World} {base p n : Nat} {R F : Nat → Nat → Int} {vR vF : Value} {uR uF : List Value} {row : Option Nat} (h : Net w base p n R F vR vF uR uF) (hg : w.grownBy w' row) (h1 : ∀ g, row = some g → g ≠ p ∧ ¬ InMat vR uR g ∧ ¬ InMat vF uF g) : Net w' base p n R F vR vF uR uF := by
  have hb := hg.block p h.lt (fun e => (h1 p e.symm).1 rfl)
  exact ⟨Nat.lt_of_lt_of_le h.lt hg.size, h.ge, (World.cell?_of_block (w := w) (a := ⟨p, 0, none⟩) hb).trans h.room, (World.cell?_of_block (w := w) (a := ⟨p, 1, none⟩) hb).trans h.flow,
    ⟨(World.frozen?_of_block (w := w) (a := ⟨p, 0, none⟩) hb).trans h.fr.1, (World.frozen?_of_block (w := w) (a := ⟨p, 1, none⟩) hb).trans h.fr.2⟩,
    h.R.kept hg (fun g e => (h1 g e).2.1), h.F.kept hg (fun g e => (h1 g e).2.2), h.off, h.offp⟩
theorem Net.below {w w' : World} {base p n : Nat} {R F : Nat → Nat → Int} {vR vF : Value} {uR uF : List Value} (h : Net w base p n R F vR vF uR uF) (hb : Below w.heap.size w w') : Net w' base p n R F vR vF uR uF :=
  h.kept (grown_below hb none) (fun g e => by cases e)
def freeE (R F : Nat → Nat → Int) (u v : Nat) : Bool := decide (F u v < R u v)
set_option maxRecDepth 100000 in
set_option maxHeartbeats 1000000 in
theorem free_any (base p n u v : Nat) (R F : Nat → Nat → Int) (vR vF : Value) (uR uF : List Value) (w : World) (h : Net w base p n R F vR vF uR uF) (hu : u < n) (hv : v < n) :
    Calls Tryz.prog 150 #[.pointer (some ⟨p, 0, none⟩), .int .i64 (u : Int), .int .i64 (v : Int)] w fun e w' => e = .returned (.bool (freeE R F u v)) ∧ Below w.heap.size w w' := by
  obtain ⟨g, cap, g', cap', rfl, c1, l1, l2, _, _, _, _, cRa⟩ := h.R.at hu
  obtain ⟨k, kap, k', kap', rfl, d1, m1, m2, _, _, _, _, cFa⟩ := h.F.at hu
  have cR := cRa v hv
  have cF := cFa v hv
  have hr := h.room
  have hf := h.flow
  have hl := h.lt
  obtain ⟨r, hrE⟩ : ∃ r, R u v = r := ⟨_, rfl⟩
  obtain ⟨f, hfE⟩ : ∃ f, F u v = f := ⟨_, rfl⟩
  have hE : freeE R F u v = decide (f < r) := by unfold freeE; rw [hrE, hfE]
  rw [hE]
  rw [hrE] at cR
  rw [hfE] at cF
  clear h hE hrE hfE cRa cFa
  go_enter Tryz.func150, Tryz.ntmps150
  go_wp2
  refine wp_region_ord [(0, .q), (1, .q), (2, .q), (3, .q), (4, .q), (5, .q), (6, .q), (7, .q), (8, .q), (9, .q), (10, .q), (11, .q), (12, .q), (13, .q), (14, .q), (15, .q), (16, .q), (17, .q), (18, .q), (19, .q), (20, .q), (21, .q)] (by kernel_rfl) (by kernel_rfl) ?_
  simp only [pick, List.filterMap_cons, List.filterMap_nil, List.getElem?_toArray, List.getElem?_cons_zero, List.getElem?_cons_succ, Option.map_some]
  repeat (first | ((with_reducible refine wpD_p (fun K hK => ?_)); go_simp; refine hK _ ?_; clear hK K) | ((with_reducible refine wpD_q (fun K hK => ?_)); go_simp; (first | refine hK _ ?_ | (go_bits; refine hK _ ?_) | (go_bits; go_simp; refine hK _ ?_)); clear hK K))
  with_reducible refine wpD_nil ?_
  go_wp2
  go_ret
  exact ⟨rfl, by exact bel_⟩
end Go.Proofs.YtmhgjgclclnmaaaGreat
/- Walks: slices.Reverse of a row of the call's own. -/



namespace Go.Proofs.YtmhgjgclclnmaaaGreat
open Go.RowKit Go.Shelf
attribute [local go_sem] BelowBy.cell BelowBy.cell_drew stillUpon givesUpon BelowBy.cell_drew2 BelowBy.cell_drew3

theorem ownsRow_grown {w w' : World} {base : Nat} {e : TypeId} {size : Nat} {v : Value} {n : Nat} {xs : List Value} (h : w.ownsRow base e size v n xs) (hh : ∀ g, v.ownBlock = some g → w'.heap[g]? = w.heap[g]?) : w'.ownsRow base e size v n xs := by
  refine ⟨h.1, h.2.imp id ?_⟩
  rintro ⟨g, cap, cur, rfl, hb, hg, hr⟩
  exact ⟨g, cap, cur, rfl, hb, (hh g rfl).trans hg, hr⟩
theorem grownBy_drew {w w' : World} {row : Option Nat} (h : w.grownBy w' row) : w.grownBy w'.drew row := ⟨h.os, h.tape, h.output, h.size, h.block⟩
set_option maxRecDepth 100000 in
set_option maxHeartbeats 2000000 in
theorem Reverse_any (base g n c : Nat) (zs : List Int) (w : World) (h : w.ownsRow base 3 1 (.slice (some ⟨g, 0, none⟩) n c) n (zs.map (Value.int .i64))) (hn : 1 ≤ n) (hn2 : n ≤ 1000000) :
    Calls Tryz.prog 151 #[.slice (some ⟨g, 0, none⟩) n c] w fun e w' => e = .returned (.tuple #[]) ∧ w'.ownsRow base 3 1 (.slice (some ⟨g, 0, none⟩) n c) n (zs.reverse.map (Value.int .i64)) ∧ w.grownBy w' (some g) := by
  have hl : zs.length = n := by have := h.1; simpa using this
  have hH := Lib.hid h
  have hlH := Lib.hid hl
  clear h hl
  have hw0 : IntKind.i64.wrap ((n : Int) - 1) = (n : Int) - 1 := IntWalk.i64_in _ ⟨by omega, by omega⟩
  go_enter Tryz.func151, Tryz.ntmps151
  go_wp2
  go_loopg [2, 3] n (fun r x y wr => ∃ (k : Nat) (ys : List Int), k + r = n ∧ x = .int .i64 (k : Int) ∧ y = .int .i64 ((n : Int) - 1 - (k : Int)) ∧ 2 * k ≤ n + 1 ∧ Hid (ys.length = n ∧ ∀ j, j < n → ys[j]? = if j < k ∨ n - 1 - k < j then zs[n - 1 - j]? else zs[j]?) ∧ Hid (wr.ownsRow base 3 1 (.slice (some ⟨g, 0, none⟩) n c) n (ys.map (Value.int .i64))) ∧ Hid (w.grownBy wr (some g)))
  case atStart => exact ⟨0, zs, by omega, rfl, by go_num, by omega, Lib.hid ⟨hlH.out, fun j hj => by rw [if_neg (by omega)]⟩, hH, Lib.hid ⟨rfl, rfl, rfl, Nat.le_refl _, fun _ _ _ => rfl⟩⟩
  case round =>
    obtain ⟨k, ys, hk, rfl, rfl, hk2, hys, hrow, hgr⟩ := hrel
    by_cases hlt : 2 * k + 1 < n
    · obtain ⟨m, hm⟩ : ∃ m, n - 1 - k = m := ⟨_, rfl⟩
      have hmI : (n : Int) - 1 - (k : Int) = (m : Int) := by omega
      rw [hmI]
      have hmH := Lib.hid hm
      have hkm : k < m := by omega
      have hmn : m < n := by omega
      obtain ⟨a, ha⟩ : ∃ a, ys[k]? = some a := ⟨_, List.getElem?_eq_getElem (by rw [hys.out.1]; omega)⟩
      obtain ⟨b, hb⟩ : ∃ b, ys[m]? = some b := ⟨_, List.getElem?_eq_getElem (by rw [hys.out.1]; omega)⟩
      have ca := (hrow.out.cellAt k (by omega)).trans (by rw [List.getElem?_map, ha]; rfl : _ = some (Value.int .i64 a))
      have cb := (hrow.out.cellAt m (by omega)).trans (by rw [List.getElem?_map, hb]; rfl : _ = some (Value.int .i64 b))
      have fa := hrow.out.frozenAt k
      have fb := hrow.out.frozenAt m
      have hg := (hrow.out.lt g rfl).2
      have haH := Lib.hid ha
      have hbH := Lib.hid hb
      have kI : (k : Int) < (m : Int) := by omega
      have hkn : k < n := by omega
      have n1 : ¬ (k = m) := by omega
      have n2 : ¬ (m = k) := by omega
      have hw1 : IntKind.i64.wrap ((m : Int) - 1) = (m : Int) - 1 := IntWalk.i64_in _ ⟨by omega, by omega⟩
      clear hm ha hb hmI
      go_wp2
      refine wp_region_ord [(0, .q), (1, .q), (2, .p), (3, .p), (4, .q), (5, .q), (6, .q), (7, .q), (8, .q), (9, .q), (10, .q), (11, .q), (12, .q), (13, .b), (14, .q), (15, .b)] (by kernel_rfl) (by kernel_rfl) ?_
      simp only [pick, List.filterMap_cons, List.filterMap_nil, List.getElem?_toArray, List.getElem?_cons_zero, List.getElem?_cons_succ, Option.map_some]
      repeat (first | ((with_reducible refine wpD_p (fun K hK => ?_)); go_simp; refine hK _ ?_; clear hK K) | ((with_reducible refine wpD_q (fun K hK => ?_)); go_simp; (first | refine hK _ ?_ | (go_bits; refine hK _ ?_) | (go_bits; go_simp; refine hK _ ?_)); clear hK K))
      with_reducible refine wpD_b (fun K hK => ?_)
      go_simp
      refine hK _ _ ?_
      clear hK K
      repeat (first | ((with_reducible refine wpD_p (fun K hK => ?_)); go_simp; refine hK _ ?_; clear hK K) | ((with_reducible refine wpD_q (fun K hK => ?_)); go_simp; (first | refine hK _ ?_ | (go_bits; refine hK _ ?_) | (go_bits; go_simp; refine hK _ ?_)); clear hK K))
      with_reducible refine wpD_b (fun K hK => ?_)
      go_simp
      refine hK _ _ ?_
      clear hK K
      repeat (first | ((with_reducible refine wpD_p (fun K hK => ?_)); go_simp; refine hK _ ?_; clear hK K) | ((with_reducible refine wpD_q (fun K hK => ?_)); go_simp; (first | refine hK _ ?_ | (go_bits; refine hK _ ?_) | (go_bits; go_simp; refine hK _ ?_)); clear hK K))
      with_reducible refine wpD_nil ?_
      go_wp2
      go_roundg (n - (k + 1))
      case measure => omega
      case rel =>
        refine ⟨k + 1, (ys.set k b).set m a, by omega, by go_num, ?_, by omega, Lib.hid ⟨by simp [hys.out.1], fun j hj => ?_⟩, Lib.hid ?_, Lib.hid ?_⟩
        · have := hmH.out
          go_num
        · have hmm := hmH.out
          have h1 := hys.out.2 k (by omega)
          have h2 := hys.out.2 m (by omega)
          rw [if_neg (by omega), haH.out] at h1
          rw [if_neg (by omega), hbH.out] at h2
          rw [List.getElem?_set, List.getElem?_set, List.length_set, hys.out.1]
          by_cases e1 : m = j
          · subst e1
            rw [if_pos rfl, if_pos hj, if_pos (by omega), show n - 1 - m = k by omega, ← h1]
          · rw [if_neg e1]
            by_cases e2 : k = j
            · subst e2
              rw [if_pos rfl, if_pos hj, if_pos (by omega), show n - 1 - k = m by omega, ← h2]
            · rw [if_neg e2, hys.out.2 j hj]
              by_cases e3 : j < k ∨ n - 1 - k < j
              · rw [if_pos e3, if_pos (by omega)]
              · rw [if_neg e3, if_neg (by omega)]
        · rw [List.map_set, List.map_set]
          exact ((hrow.out.stored k (.int .i64 b)).1.stored m (.int .i64 a)).1
        · have g1 := (hrow.out.stored k (.int .i64 b))
          have g2 := (g1.1.stored m (.int .i64 a)).2
          exact grownBy_drew (hgr.out.trans (g1.2.trans g2))
    · have hd : ((n : Int) - 1 - (k : Int) ≤ (k : Int)) := by omega
      have hys2 : ys = zs.reverse := by
        apply List.ext_getElem?
        intro j
        by_cases hj : j < n
        · rw [hys.out.2 j hj, List.getElem?_reverse (by rw [hlH.out]; exact hj), hlH.out]
          by_cases e3 : j < k ∨ n - 1 - k < j
          · rw [if_pos e3]
          · rw [if_neg e3, show n - 1 - j = j by omega]
        · rw [List.getElem?_eq_none (by rw [hys.out.1]; omega), List.getElem?_eq_none (by rw [List.length_reverse, hlH.out]; omega)]
      have hysH := Lib.hid hys2
      clear hys2
      go_wp2
      go_end0
      exact ⟨rfl, by rw [← hysH.out]; exact hrow.out, hgr.out⟩
end Go.Proofs.YtmhgjgclclnmaaaGreat
/- Walks: the first shortest way with room, found by a search through a channel. -/






namespace Go.Proofs.YtmhgjgclclnmaaaGreat
open Go.RowKit Go.Shelf Go.Conc
attribute [local go_sem] BelowBy.cell BelowBy.cell_drew stillUpon givesUpon BelowBy.cell_drew2 BelowBy.cell_drew3

def intsI (l : List Nat) : List Int := l.map fun x => ((x : Nat) : Int)
def WayRes (w : World) (r : Option (List Nat)) (e : Ending) (w' : World) : Prop := Below w.heap.size w w' ∧ match r with
  | none => e = .returned (.slice none 0 0)
  | some L => ∃ g c, e = .returned (.slice (some ⟨g, 0, none⟩) L.length c) ∧ w'.ownsRow w.heap.size 3 1 (.slice (some ⟨g, 0, none⟩) L.length c) L.length ((intsI L).map (Value.int .i64))
theorem bytesInt : ∃ i, Tryz.prog.info? 3 = some i ∧ i.bytes = 8 := by
  have h : (Tryz.prog.info? 3).map (·.bytes) = some 8 := by kernel_rfl
  obtain ⟨i, hi, hb⟩ := Option.map_eq_some_iff.1 h
  exact ⟨i, hi, hb⟩
theorem mkChan (n : Nat) (hn : n ≤ 100000) (w : World) : (Instr.makeChan 217 (.int .i64 (n : Int))).run Tryz.prog w = .ok (.chan (some w.heap.size)) (w.alloc (.chan n #[] false 0 0 false)) := by
  obtain ⟨i, hi, hb⟩ := bytesInt
  exact run_makeChan (P := Tryz.prog) (w := w) Tryz.underlying217 hi .i64 n (by omega) (by rw [hb]; omega)
theorem zeroInt1 (w : World) : (zeroValue 3).run Tryz.prog w = .ok (.int .i64 0) w := by kernel_rfl
theorem free_at (base p n u v : Nat) (R F : Nat → Nat → Int) (vR vF : Value) (uR uF : List Value) (w : World) (h : Net w base p n R F vR vF uR uF) (hu : u < n) (hv : v < n) {b : Bool} (hb : freeE R F u v = b) :
    Calls Tryz.prog 150 #[.pointer (some ⟨p, 0, none⟩), .int .i64 (u : Int), .int .i64 (v : Int)] w fun e w' => e = .returned (.bool b) ∧ Below w.heap.size w w' := by
  rw [← hb]; exact free_any base p n u v R F vR vF uR uF w h hu hv
/-- the search: what was found waits in the channel, from place d on -/
structure WaySt (w : World) (c g n : Nat) (E : Nat → Nat → Bool) (x : Nat) (L q : List Nat) (i t d : Nat) (f : Nat → Int) (wr : World) : Prop where
  bfs : Bfs n E x L q i t
  par : Par n L q f
  ch : ∃ s r, wr.heap[c]? = some (.chan n ((intsI (L.drop d)).map (Value.int .i64)).toArray false s r false)
  row : wr.rowIs g 3 n (fun v => .int .i64 (f v))
  below : Below w.heap.size w wr
  gl : w.heap.size ≤ g
  cl : w.heap.size ≤ c
  ne : c ≠ g
  le : d ≤ L.length
theorem WaySt.kept {w : World} {c g n : Nat} {E : Nat → Nat → Bool} {x : Nat} {L q : List Nat} {i t d : Nat} {f : Nat → Int} {wr wr' : World} (h : WaySt w c g n E x L q i t d f wr) (hb : Below wr.heap.size wr wr') : WaySt w c g n E x L q i t d f wr' := by
  obtain ⟨s, r, hc⟩ := h.ch
  exact ⟨h.bfs, h.par, ⟨s, r, (hb.block c (lt_of_heap hc)).trans hc⟩, h.row.of_block (hb.block g h.row.lt), h.below.trans (hb.mono h.below.size), h.gl, h.cl, h.ne, h.le⟩
theorem chan_size (L : List Nat) (d : Nat) : (((intsI (L.drop d)).map (Value.int .i64)).toArray).size = L.length - d := by simp [intsI]
theorem chan_push (L : List Nat) (d t : Nat) (hd : d ≤ L.length) : (((intsI (L.drop d)).map (Value.int .i64)).toArray).push (.int .i64 (t : Int)) = ((intsI ((L ++ [t]).drop d)).map (Value.int .i64)).toArray := by
  rw [List.drop_append_of_le_length hd]
  simp [intsI]
theorem chan_pop (L : List Nat) (d : Nat) : (((intsI (L.drop d)).map (Value.int .i64)).toArray).extract 1 (((intsI (L.drop d)).map (Value.int .i64)).toArray).size = ((intsI (L.drop (d + 1))).map (Value.int .i64)).toArray := by
  apply Array.ext'
  simp [intsI, List.drop_drop, ← List.map_drop]
  rw [List.take_of_length_le (by simp; omega)]
theorem chan_head {L : List Nat} {d u : Nat} (h : L[d]? = some u) : (((intsI (L.drop d)).map (Value.int .i64)).toArray)[0]? = some (.int .i64 (u : Int)) := by
  simp [intsI, h]
set_option maxRecDepth 100000 in
set_option maxHeartbeats 4000000 in
theorem way_any (base p n x y : Nat) (R F : Nat → Nat → Int) (vR vF : Value) (uR uF : List Value) (w : World) (h : Net w base p n R F vR vF uR uF) (hx : x < n) (hy : y < n) (hn : n ≤ 100000) :
    Calls Tryz.prog 102 #[.pointer (some ⟨p, 0, none⟩), .int .i64 (x : Int), .int .i64 (y : Int)] w (WayRes w (wayTo n (freeE R F) x y)) := by
  obtain ⟨i1, hi', hz0', hz1', hz2'⟩ := info_parts infoInt1
  have hN := Lib.hid h
  have hmc := mkChan n hn
  obtain ⟨A0, c0, hv⟩ := Own2.form h.R h.R.len
  have hr := h.room
  rw [hv] at hr
  have hl := h.lt
  clear h hv
  obtain ⟨E, hE⟩ : ∃ E, freeE R F = E := ⟨_, rfl⟩
  rw [hE]
  have hEH := Lib.hid hE
  clear hE
  go_enter Tryz.func102, Tryz.ntmps102
  go_upto_region 4 with (go_at_call 149; refine (Repeat_any w.heap.size n _ (by omega) hn (by simp) (by go_simp)).mono ?_; rintro e w1 ⟨g, rfl, hg1, hrow1, hb1⟩)
  have hgl := hrow1.lt
  have hs1 : w.heap.size + 1 ≤ w1.heap.size := by have := hb1.size; simpa using this
  have hgg : w.heap.size + 1 ≤ g := by simpa using hg1
  have hbw : Below w.heap.size w (w1.alloc (.chan n #[] false 0 0 false)) := by exact bel_
  have hrow1H := Lib.hid hrow1
  clear hrow1 hb1
  refine wp_region_send rfl rfl rfl rfl rfl rfl (c := w1.heap.size) (v := .int .i64 (x : Int)) (by go_simp) (by go_simp) (heap_alloc_new _ _) (by simp; omega) ?_
  intro w2 hch2 hgr2 K hK
  go_simp
  refine hK _ ?_
  clear hK K
  have hrow2 : w2.rowIs g 3 n (fun _ => .int .i64 (-1)) := (hrow1H.out.alloc _).of_block (hgr2.block g (by simp; omega) (by simp; omega))
  have hcx := hrow2.cell (i := x) hx
  have hfx := hrow2.frozen x
  have hgl2 := hrow2.lt
  have hs2 : w1.heap.size + 1 ≤ w2.heap.size := by have := hgr2.size; simpa using this
  have hst2 : Hid (WaySt w w1.heap.size g n E x [x] [0] 0 0 0 (fun j => if j = x then (x : Int) else -1) (w2.setCell ⟨g, x, none⟩ (.int .i64 (x : Int)))) := Lib.hid ⟨Bfs.start hx, Par.start,
    ⟨1, 0, (Below.heap_setCell _ _ _ _ (by simp; omega)).trans (by have := hch2; simpa [intsI] using this)⟩, (hrow2.set x _).congr (fun j _ => by split <;> rfl), (hbw.grown hgr2 (by simp; omega) (fun k e => by injection e with e; omega)).setCell (p := ⟨g, x, none⟩) (by simp; omega) _, by omega, by omega, by omega, by simp⟩
  clear hrow2 hch2 hgr2
  go_wp2
  go_loopg [] n (fun gk wr => ∃ (L q : List Nat) (i : Nat) (f : Nat → Int), i + gk = n ∧ Hid (WaySt w w1.heap.size g n E x L q i 0 i f wr))
  case atStart => exact ⟨_, _, 0, _, by omega, hst2⟩
  case round =>
    clear hst2 hcx hfx
    obtain ⟨L, q, i, f, hi, hst⟩ := hrel
    obtain ⟨s, r, hch⟩ := hst.out.ch
    have hlen := fun ty => run_len_chan (P := Tryz.prog) 217 ty Tryz.underlying217 hch
    simp only [chan_size] at hlen
    have hLn := hst.out.bfs.size
    by_cases hiL : i < L.length
    · obtain ⟨m, hm⟩ : ∃ m, L.length - i = m := ⟨_, rfl⟩
      rw [hm] at hlen
      have hm0 : 0 < m := by omega
      obtain ⟨u, hu⟩ : ∃ u, L[i]? = some u := ⟨_, List.getElem?_eq_getElem hiL⟩
      have huH := Lib.hid hu
      have hchH := Lib.hid hch
      clear hu hch hm
      go_upto_region 7 with fail
      refine wp_region_recv rfl rfl rfl rfl rfl rfl (c := w1.heap.size) (v := .int .i64 (u : Int)) Tryz.underlying217 zeroInt1 (by go_simp) hchH.out (chan_head huH.out) ?_
      intro w3 hch3 hgr3 K hK
      rw [chan_pop] at hch3
      go_simp
      refine hK _ ?_
      clear hK K
      have hun : u < n := hst.out.bfs.lt i u huH.out
      have hst3 : Hid (WaySt w w1.heap.size g n E x L q i 0 (i + 1) f w3) := Lib.hid ⟨hst.out.bfs, hst.out.par, ⟨_, _, hch3⟩, hst.out.row.of_block (hgr3.block g hst.out.row.lt (by have := hst.out.ne; simp; omega)),
        hst.out.below.grown hgr3 hst.out.below.size (fun k e => by injection e with e; have := hst.out.cl; omega), hst.out.gl, hst.out.cl, hst.out.ne, hiL⟩
      clear hch3 hgr3 hlen
      go_wp2
      go_loopg [36] n (fun gk ctr wr => ∃ (t : Nat) (L q : List Nat) (f : Nat → Int), t + gk = n ∧ ctr = .int .i64 (t : Int) ∧ Hid (WaySt w w1.heap.size g n E x L q i t (i + 1) f wr) ∧ Hid (L[i]? = some u))
      case atStart => exact ⟨0, L, q, f, by omega, rfl, hst3, huH⟩
      case round =>
        clear hst3 hst huH hchH hm0 hLn hiL
        obtain ⟨t, L, q, f, ht, rfl, hst, hu⟩ := hrel
        have hgl3 := hst.out.row.lt
        by_cases htn : t < n
        · have hct := hst.out.row.cell (i := t) htn
          have hft := hst.out.row.frozen t
          by_cases htL : t ∈ L
          · obtain ⟨k, hk⟩ := List.mem_iff_getElem?.1 htL
            obtain ⟨p', hp'⟩ : ∃ p', q[k]? = some p' := ⟨_, List.getElem?_eq_getElem (by rw [hst.out.bfs.len]; exact (List.getElem?_eq_some_iff.1 hk).1)⟩
            obtain ⟨u', hu'⟩ : ∃ u', L[p']? = some u' := ⟨_, List.getElem?_eq_getElem (by have := (hst.out.bfs.within k p' hp').1; have := (List.getElem?_eq_some_iff.1 hk).1; omega)⟩
            rw [hst.out.par.at_ k t p' u' hk hp' hu'] at hct
            have hnn : ¬ ((u' : Int) < 0) := by omega
            have hnext := Lib.hid (hst.out.bfs.skip hu.out (fun _ => htL))
            clear hk hp' hu'
            go_wp2
            go_roundg (n - (t + 1))
            case measure => omega
            case rel => exact ⟨t + 1, L, q, f, by omega, by go_num, Lib.hid ⟨hnext.out, hst.out.par, hst.out.ch, hst.out.row, hst.out.below, hst.out.gl, hst.out.cl, hst.out.ne, hst.out.le⟩, hu⟩
          · rw [hst.out.par.no t htn htL] at hct
            have hfp : ¬ (f t = 0) := by rw [hst.out.par.no t htn htL]; decide
            cases hEt : E u t
            · have hEH2 := Lib.hid hEt
              have hnext := Lib.hid (hst.out.bfs.skip hu.out (fun e => by rw [hEt] at e; cases e))
              clear hEt hfp
              go_wp2_with (go_at_call 150; refine (free_at base p n u t R F vR vF uR uF _ (hN.out.below hst.out.below) hun htn (b := false) (by rw [hEH.out]; exact hEH2.out)).mono ?_; rintro e w4 ⟨rfl, hb4⟩)
              go_roundg (n - (t + 1))
              case measure => omega
              case rel => exact ⟨t + 1, L, q, f, by omega, by go_num, Lib.hid (WaySt.kept ⟨hnext.out, hst.out.par, hst.out.ch, hst.out.row, hst.out.below, hst.out.gl, hst.out.cl, hst.out.ne, hst.out.le⟩ hb4), hu⟩
            · have hEH2 := Lib.hid hEt
              have hroom := hst.out.bfs.room htn htL
              have hnb := Lib.hid (hst.out.bfs.found hu.out htn hEt htL)
              have hnp := Lib.hid (hst.out.par.found hst.out.bfs hu.out htL)
              have hu2 := Lib.hid (show (L ++ [t])[i]? = some u by rw [List.getElem?_append_left (List.getElem?_eq_some_iff.1 hu.out).1]; exact hu.out)
              clear hEt hfp
              go_upto_region 13 with (go_at_call 150; refine (free_at base p n u t R F vR vF uR uF _ (hN.out.below hst.out.below) hun htn (b := true) (by rw [hEH.out]; exact hEH2.out)).mono ?_; rintro e w4 ⟨rfl, hb4⟩; have hst4 := Lib.hid (hst.out.kept hb4); have hct := hst4.out.row.cell (i := t) htn; have hft := hst4.out.row.frozen t; have hgl4 := hst4.out.row.lt)
              obtain ⟨s4, r4, hch4⟩ := hst4.out.ch
              have hch5 : (w4.setCell ⟨g, t, none⟩ (.int .i64 (u : Int))).heap[w1.heap.size]? = _ := (Below.heap_setCell _ _ _ _ (by have := hst.out.ne; simpa using this)).trans hch4
              have hrow5 := Lib.hid ((hst4.out.row.set t (.int .i64 (u : Int))).congr (g := fun j => .int .i64 (if j = t then (u : Int) else f j)) (fun j _ => by split <;> rfl))
              have hbw5 := Lib.hid (hst4.out.below.setCell (p := ⟨g, t, none⟩) hst.out.gl (.int .i64 (u : Int)))
              have hch5H := Lib.hid hch5
              clear hch4 hch5 hct hft
              refine wp_region_send rfl rfl rfl rfl rfl rfl (c := w1.heap.size) (v := .int .i64 (t : Int)) (by go_simp) (by go_simp) hch5H.out (by rw [chan_size]; omega) ?_
              intro w6 hch6 hgr6 K hK
              rw [chan_push _ _ _ hst.out.le] at hch6
              go_simp
              refine hK _ ?_
              clear hK K
              have hst6 : Hid (WaySt w w1.heap.size g n E x (L ++ [t]) (q ++ [i]) i (t + 1) (i + 1) (fun j => if j = t then (u : Int) else f j) w6) := Lib.hid ⟨hnb.out, hnp.out, ⟨_, _, hch6⟩, hrow5.out.of_block (hgr6.block g hrow5.out.lt (by have := hst.out.ne; simp; omega)),
                hbw5.out.grown hgr6 hbw5.out.size (fun k e => by injection e with e; have := hst.out.cl; omega), hst.out.gl, hst.out.cl, hst.out.ne, by have := hst.out.le; simp; omega⟩
              clear hch6 hgr6
              go_wp2
              go_roundg (n - (t + 1))
              case measure => omega
              case rel => exact ⟨t + 1, _, _, _, by omega, by go_num, hst6, hu2⟩
        · obtain rfl : t = n := by omega
          go_wp2
          have hLn := hst.out.bfs.size
          have hil := (List.getElem?_eq_some_iff.1 hu.out).1
          go_roundg (t - (i + 1))
          case measure => omega
          case rel => exact ⟨L, q, i + 1, f, by omega, Lib.hid ⟨hst.out.bfs.done, hst.out.par, hst.out.ch, hst.out.row, hst.out.below, hst.out.gl, hst.out.cl, hst.out.ne, hst.out.le⟩⟩
    · obtain rfl : i = L.length := by have := hst.out.le; omega
      rw [Nat.sub_self] at hlen
      have hcy := hst.out.row.cell (i := y) hy
      have hgl3 := hst.out.row.lt
      by_cases hyL : y ∈ L
      · obtain ⟨k, hk⟩ := List.mem_iff_getElem?.1 hyL
        obtain ⟨p', hp'⟩ : ∃ p', q[k]? = some p' := ⟨_, List.getElem?_eq_getElem (by rw [hst.out.bfs.len]; exact (List.getElem?_eq_some_iff.1 hk).1)⟩
        obtain ⟨u', hu'⟩ : ∃ u', L[p']? = some u' := ⟨_, List.getElem?_eq_getElem (by have := (hst.out.bfs.within k p' hp').1; have := (List.getElem?_eq_some_iff.1 hk).1; omega)⟩
        rw [hst.out.par.at_ k y p' u' hk hp' hu'] at hcy
        have hnn : ¬ ((u' : Int) < 0) := by omega
        have hcyH := Lib.hid hcy
        have hw := hst.out.bfs.way (y := y) hx
        obtain ⟨D, hD⟩ : ∃ D, distTo n E y x = some D := by
          cases hd : distTo n E y x with
          | none => exact ((hw.1 (by unfold wayTo; rw [hd]; rfl)) hyL).elim
          | some D => exact ⟨D, rfl⟩
        have hres := Lib.hid (show wayTo n E x y = some (wayL n E y D x) by unfold wayTo; rw [hD]; rfl)
        have hDH := Lib.hid hD
        have hDn := wayL_short hx hD
        have hWl := wayL_len n E y D x
        have hlast := wayL_last hx hD
        have hback := Lib.hid (fun (m u v : Nat) (hm : m < D) (hu : (wayL n E y D x)[m]? = some u) (hv : (wayL n E y D x)[m + 1]? = some v) => hst.out.par.back hst.out.bfs hx hD hm hu hv)
        have hstart := Lib.hid (fun (m : Nat) (h : (wayL n E y D x)[m]? = some x) => wayL_start hx hD h)
        have hwn := Lib.hid (fun (m u : Nat) (h : (wayL n E y D x)[m]? = some u) => (wayL_spec D x hx hD m u h).1)
        have hhead := wayL_head n E y D x
        obtain ⟨W, hW⟩ : ∃ W, wayL n E y D x = W := ⟨_, rfl⟩
        rw [hW] at hWl hlast hback hstart hres hwn hhead
        have hWlH := Lib.hid hWl
        have hlastH := Lib.hid hlast
        have hheadH := Lib.hid hhead
        clear hk hp' hu' hw hD hch hW hWl hlast hhead hcy
        obtain ⟨wb, rfl⟩ : ∃ wb : World, wb = wr := ⟨_, rfl⟩
        have hcy := hcyH.out
        go_wp2
        go_loopg [13, 12] D (fun gk kv v wr => ∃ (j z : Nat), j + gk = D ∧ kv = .int .i64 (z : Int) ∧ Hid (W[D - j]? = some z) ∧ Hid (wr.ownsRow wb.heap.size 3 1 v (j + 1) ((intsI (W.drop (D - j)).reverse).map (Value.int .i64))) ∧ Hid (Below wb.heap.size wb wr))
        case atStart =>
          refine ⟨0, y, by omega, rfl, hlastH, Lib.hid ?_, Lib.hid (bl_al (bl_refl _) _)⟩
          rw [Nat.sub_zero, drop_last hWlH.out hlastH.out]
          exact World.ownsRow_lit wb #[.int .i64 (y : Int)] 1 (Nat.le_refl _) (by decide) rfl
        case round =>
          obtain ⟨j, z, hj, rfl, hz, hrow, hbq⟩ := hrel
          have hzn := hwn.out _ _ hz.out
          have hszq := hbq.out.size
          obtain ⟨g5, c5, rfl⟩ := ownsRow_succ hrow.out
          by_cases hjD : j = D
          · subst hjD
            have hzx : z = x := by
              have h1 := hz.out
              rw [Nat.sub_self, hheadH.out] at h1
              exact (Option.some.inj h1).symm
            subst hzx
            have hrow1 := hrow.out
            rw [Nat.sub_self, List.drop_zero] at hrow1
            have hrow1H := Lib.hid hrow1
            have hg5 := (hrow.out.lt g5 rfl).1
            clear hrow1
            go_wp2_with (go_at_call 151; refine (Reverse_any wb.heap.size g5 (j + 1) c5 (intsI W.reverse) _ hrow1H.out (by omega) (by omega)).mono ?_; rintro e w9 ⟨rfl, hrow9, hgr9⟩; have hrow9H := Lib.hid hrow9; have hgr9H := Lib.hid hgr9; clear hrow9 hgr9)
            go_ret
            rw [hres.out]
            have hrev : (intsI W.reverse).reverse = intsI W := by simp [intsI, List.map_reverse]
            have h9 := hrow9H.out
            rw [hrev, ← hWlH.out] at h9
            refine ⟨hst.out.below.trans ((hbq.out.grown hgr9H.out hszq (fun k e => by injection e with e; omega)).mono hst.out.below.size), g5, c5, ?_, ownsRow_base h9 hst.out.below.size⟩
            rw [hWlH.out]
            rfl
          · have hjl : j < D := by omega
            obtain ⟨m, hm⟩ : ∃ m, D - j = m + 1 := ⟨D - j - 1, by omega⟩
            have hmj : D - (j + 1) = m := by omega
            rw [hm] at hz hrow
            obtain ⟨z', hz'⟩ : ∃ z', W[m]? = some z' := ⟨_, List.getElem?_eq_getElem (by have := hWlH.out; omega)⟩
            have hf := hback.out m z' z (by omega) hz' hz.out
            have hne : ¬ (z = x) := fun e => by
              have := hstart.out (m + 1) (e ▸ hz.out)
              omega
            have hneI : ((z : Int) != (x : Int)) = true := by simp; omega
            have hcz := (hbq.out.cell (p := ⟨g, z, none⟩) hgl3).trans (hst.out.row.cell (i := z) hzn)
            rw [hf] at hcz
            have hgq : g < wr.heap.size := by omega
            have hzH := Lib.hid hz'
            have hmH := Lib.hid hmj
            have hdm := Lib.hid (drop_more hz')
            clear hz' hf hm hmj
            go_wp2_with (at_builtin; refine wpList_append_own _ rfl _ _ 169 rfl wb.heap.size 3 i1 (.int .i64 0) 1 8 Tryz.underlying169 hi' hz0' hz1' hz2' rfl (by decide) _ (j + 1) ((intsI (W.drop (m + 1)).reverse).map (Value.int .i64)) rfl (hrow.out.alloc _) ⟨wr.heap.size, 0, none⟩ 1 1 [.int .i64 (z' : Int)] rfl rfl (cell_one_new _ _ _) (fun x hx => by simp at hx; subst hx; rfl) (by unfold maxLen; omega) (by omega) (by simp; omega) ?_; intro u3 w3 hown3 hgrow3 _; have hown3H := Lib.hid hown3; have hgrow3H := Lib.hid hgrow3; clear hown3 hgrow3)
            go_roundg (D - (j + 1))
            case measure => omega
            case rel =>
              refine ⟨j + 1, z', by omega, rfl, by rw [hmH.out]; exact hzH, Lib.hid ?_, Lib.hid (hbq.out.trans (below_app hszq (fun g e => (hrow.out.lt g e).1) hgrow3H.out))⟩
              rw [hmH.out, hdm.out]
              have h3 := hown3H.out
              simpa [intsI] using h3
      · have hw := Lib.hid ((hst.out.bfs.way (y := y) hx).2 hyL)
        rw [hst.out.par.no y hy hyL] at hcy
        clear hch
        go_wp2
        go_ret
        rw [hw.out]
        exact ⟨hst.out.below, rfl⟩
end Go.Proofs.YtmhgjgclclnmaaaGreat
/- Walks: the network of some bonds is made. -/






namespace Go.Proofs.YtmhgjgclclnmaaaGreat
open Go.RowKit Go.Shelf
attribute [local go_sem] BelowBy.cell BelowBy.cell_drew stillUpon givesUpon BelowBy.cell_drew2 BelowBy.cell_drew3

section
variable {P : Program} {ops : Array Oper}
theorem wpD_append_at {o : Oper} {rest : List (Oper × Tag)} {a : Act} {w : World} {Q : Act → World → Prop} (hgd : o.guard = none) (s x : Operand) (t : TypeId)
    (ho : o.op = .call { callee := .builtin .append, args := #[s, x], argTypes := #[t, t] })
    (base : Nat) (e : TypeId) (i : TypeInfo) (z : Value) (size bytes : Nat) (ht : P.underlying t = some (.slice e)) (hi : P.info? e = some i) (hz : i.zero = some z)
    (hsize : i.size = size) (hby : i.bytes = bytes) (hzs : z.cells.size = size) (hsz : 0 < size)
    (v : Value) (n : Nat) (xs : List Value) (hs : a.eval s = v) (hown : w.ownsRow base e size v n xs)
    (ad : Addr) (m c : Nat) (news : List Value) (hx : a.eval x = .slice (some ad) m c) (hl : news.length = m * size) (hnews : ∀ j u, news[j]? = some u → w.cell? (ad.add j) = some u) (h1 : ∀ u ∈ news, u.oneCell' = true)
    (h63 : n + m ≤ maxLen) (hbytes : (n + m) * bytes ≤ 140737488355328) (hbase : base ≤ w.heap.size)
    (h : ∀ v' w', w'.ownsRow base e size v' (n + m) (xs ++ news) → w.grownBy w' v.ownBlock → (v'.ownBlock = v.ownBlock ∨ v'.ownBlock = some w.heap.size) → wpD P ops Q rest (a.put o.dst v') w') : wpD P ops Q ((o, .b) :: rest) a w := by
  refine wpD_b fun K hK => ?_
  have hw : Region.wanted o (yielded ops a.tmps) = true := by simp [Region.wanted, hgd]
  rw [if_pos hw]
  obtain ⟨v', w', hrun, h2, h3, _, h4⟩ := run_append_own_at (P := P) w base t o.type e i z size bytes ht hi hz hsize hby hzs hsz v n xs hown ad m c news hl hnews h1 h63 hbytes hbase
  unfold execOp
  simp only [ho, resolve, invoke, builtin, Sem.run_bind, Sem.run_pure, Result.andThen_ok, List.map_toArray, List.map_cons, List.map_nil, hs, hx, hrun]
  exact hK _ _ (h v' w' h2 h3 h4)
end
def zeroM : Nat → Nat → Int := fun _ _ => 0
theorem rowsZ_snoc (M : Nat → Nat → Int) (n k : Nat) : rowsZ M n k ++ [rowZ M n k] = rowsZ M n (k + 1) := by simp [rowsZ, List.range_succ]
theorem made_row (n k : Nat) : (madeCells #[Value.int .i64 0] n).toList = rowZ zeroM n k := by
  apply List.ext_getElem?
  intro j
  by_cases hj : j < n
  · rw [rowZ_get hj, Array.getElem?_toList]
    simp [madeCells, hj, zeroM, Nat.mod_one]
  · rw [List.getElem?_eq_none (by rw [Array.length_toList, size_madeCells]; omega), List.getElem?_eq_none (by rw [rowZ_len]; omega)]
/-- rows of rows beside each other: two slices and a struct that holds them -/
structure NetQ (w : World) (base p n kR kF : Nat) (vR vF : Value) (uR uF : List Value) : Prop where
  lt : p < w.heap.size
  ge : base ≤ p
  room : w.cell? ⟨p, 0, none⟩ = some vR
  flow : w.cell? ⟨p, 1, none⟩ = some vF
  fr : w.frozen? ⟨p, 0, none⟩ = false ∧ w.frozen? ⟨p, 1, none⟩ = false
  R : Own2 w base 33 2 1 vR uR (rowsZ zeroM n kR)
  F : Own2 w base 33 2 1 vF uF (rowsZ zeroM n kF)
  off : ∀ g, InMat vR uR g → ¬ InMat vF uF g
  offp : ¬ InMat vR uR p ∧ ¬ InMat vF uF p
theorem own2_in {w : World} {base T E size g : Nat} {v : Value} {us : List Value} {rows : List (List Value)} (h : Own2 w base T E size v us rows) (hg : InMat v us g) : base ≤ g ∧ g < w.heap.size := by
  rcases hg with hg | ⟨k, u, hu, hg⟩
  · exact h.lt g hg
  · exact h.ltIn hu g hg
theorem own2_kept {w w' : World} {base T E size : Nat} {v : Value} {us : List Value} {rows : List (List Value)} {row : Option Nat} (h : Own2 w base T E size v us rows) (hg : w.grownBy w' row) (h1 : ∀ g, row = some g → ¬ InMat v us g) : Own2 w' base T E size v us rows :=
  h.kept hg fun g e => ⟨fun e' => h1 g e (.inl e'), fun k u hu e' => h1 g e (.inr ⟨k, u, hu, e'⟩)⟩
section
variable {w w' w1 : World} {base p n kR kF : Nat} {vR vF v' : Value} {uR uF : List Value}
theorem NetQ.kept {row : Option Nat} (h : NetQ w base p n kR kF vR vF uR uF) (hg : w.grownBy w' row) (h1 : ∀ g, row = some g → g ≠ p ∧ ¬ InMat vR uR g ∧ ¬ InMat vF uF g) : NetQ w' base p n kR kF vR vF uR uF := by
  have hb := hg.block p h.lt (fun e => (h1 p e.symm).1 rfl)
  exact ⟨Nat.lt_of_lt_of_le h.lt hg.size, h.ge, (World.cell?_of_block (w := w) (a := ⟨p, 0, none⟩) hb).trans h.room, (World.cell?_of_block (w := w) (a := ⟨p, 1, none⟩) hb).trans h.flow,
    ⟨(World.frozen?_of_block (w := w) (a := ⟨p, 0, none⟩) hb).trans h.fr.1, (World.frozen?_of_block (w := w) (a := ⟨p, 1, none⟩) hb).trans h.fr.2⟩,
    own2_kept h.R hg (fun g e => (h1 g e).2.1), own2_kept h.F hg (fun g e => (h1 g e).2.2), h.off, h.offp⟩
theorem NetQ.below (h : NetQ w base p n kR kF vR vF uR uF) (hb : Below w.heap.size w w') : NetQ w' base p n kR kF vR vF uR uF :=
  h.kept (grown_below hb none) (fun g e => by cases e)
theorem inMat_snoc {v v' x : Value} {us : List Value} {b c g : Nat} (h : InMat v' (us ++ [x]) g) (hv : v'.ownBlock = v.ownBlock ∨ v'.ownBlock = some c) (hx : x.ownBlock = some b) : InMat v us g ∨ g = c ∨ g = b := by
  rcases h with h | ⟨k, u, hu, h⟩
  · rcases hv with hv | hv
    · exact .inl (.inl (hv ▸ h))
    · rw [hv] at h
      injection h with h
      exact .inr (.inl h.symm)
  · rcases Nat.lt_or_ge k us.length with hlt | hge
    · rw [List.getElem?_append_left hlt] at hu
      exact .inl (.inr ⟨k, u, hu, h⟩)
    · have hlt := (List.getElem?_eq_some_iff.1 hu).1
      simp at hlt
      obtain rfl : k = us.length := by omega
      simp at hu
      subst hu
      rw [hx] at h
      injection h with h
      exact .inr (.inr h.symm)
/-- one more row of room: in w1 lie the new row (block b) and what is appended -/
theorem NetQ.growR {b c : Nat} (h : NetQ w base p n kR kF vR vF uR uF) (hb1 : Below w.heap.size w w1) (hb : w.heap.size ≤ b) (hx : w1.ownsRow base 2 1 (.slice (some ⟨b, 0, none⟩) n n) n (rowZ zeroM n kR))
    (hown : w'.ownsRow base 33 1 v' (kR + 1) (uR ++ [.slice (some ⟨b, 0, none⟩) n n])) (hg : w1.grownBy w' vR.ownBlock) (hat : v'.ownBlock = vR.ownBlock ∨ v'.ownBlock = some w1.heap.size) :
    NetQ (w'.setCell ⟨p, 0, none⟩ v') base p n (kR + 1) kF v' vF (uR ++ [.slice (some ⟨b, 0, none⟩) n n]) uF ∧ p < w'.heap.size ∧ w'.cell? ⟨p, 0, none⟩ = some vR ∧ w'.frozen? ⟨p, 0, none⟩ = false := by
  have h1 := h.below hb1
  have hl1 := hb1.size
  have hlen : uR.length = kR := by rw [h.R.len, rowsZ_len]
  have hR := h1.R.push hlen hx (fun g e => by
    have e2 : b = g := by injection e
    subst e2
    exact ⟨fun e' => by have := (h.R.lt _ e').2; omega, fun k u hu e' => by have := (h.R.ltIn hu _ e').2; omega⟩) hown hg hat
  rw [rowsZ_snoc] at hR
  have hpR : ∀ g, vR.ownBlock = some g → g ≠ p := fun g e e' => h.offp.1 (.inl (by rw [← e']; exact e))
  have hpb := hg.block p h1.lt (fun e => hpR p e.symm rfl)
  have hF : Own2 w' base 33 2 1 vF uF (rowsZ zeroM n kF) := own2_kept h1.F hg (fun g e => h.off g (.inl e))
  have hnew : ∀ g, InMat v' (uR ++ [.slice (some ⟨b, 0, none⟩) n n]) g → InMat vR uR g ∨ w.heap.size ≤ g := fun g hg' => by
    rcases inMat_snoc hg' hat (rfl : (Value.slice (some ⟨b, 0, none⟩) n n).ownBlock = some b) with h2 | h2 | h2
    · exact .inl h2
    · exact .inr (by omega)
    · exact .inr (by dsimp only at h2; omega)
  have hpn : ¬ InMat v' (uR ++ [.slice (some ⟨b, 0, none⟩) n n]) p := fun hp => by
    rcases hnew p hp with h2 | h2
    · exact h.offp.1 h2
    · have := h.lt; omega
  have hgs : w'.grownBy (w'.setCell ⟨p, 0, none⟩ v') (some p) := ⟨rfl, rfl, rfl, by simp, fun i hi hne => Below.heap_setCell _ _ _ _ (fun e => hne (by rw [e]))⟩
  have hpl : p < w'.heap.size := Nat.lt_of_lt_of_le h1.lt hg.size
  have hc0 : w'.cell? ⟨p, 0, none⟩ = some vR := (World.cell?_of_block (w := w1) (a := ⟨p, 0, none⟩) hpb).trans h1.room
  have hc1 : w'.cell? ⟨p, 1, none⟩ = some vF := (World.cell?_of_block (w := w1) (a := ⟨p, 1, none⟩) hpb).trans h1.flow
  have hf0 : w'.frozen? ⟨p, 0, none⟩ = false := (World.frozen?_of_block (w := w1) (a := ⟨p, 0, none⟩) hpb).trans h1.fr.1
  have hf1 : w'.frozen? ⟨p, 1, none⟩ = false := (World.frozen?_of_block (w := w1) (a := ⟨p, 1, none⟩) hpb).trans h1.fr.2
  refine ⟨⟨by simpa using hpl, h.ge, World.cell?_setCell_same _ _ _ hc0, by rw [World.cell?_setCell_other _ _ _ _ (by simp)]; exact hc1, ⟨by simpa using hf0, by simpa using hf1⟩,
    own2_kept hR hgs (fun g e => by injection e with e; rw [← e]; exact hpn), own2_kept hF hgs (fun g e => by injection e with e; rw [← e]; exact h.offp.2), fun g hg' hF' => ?_, hpn, h.offp.2⟩, hpl, hc0, hf0⟩
  rcases hnew g hg' with h2 | h2
  · exact h.off g h2 hF'
  · have := (own2_in h.F hF').2
    omega
/-- one more row of flow -/
theorem NetQ.growF {b c : Nat} (h : NetQ w base p n kR kF vR vF uR uF) (hb1 : Below w.heap.size w w1) (hb : w.heap.size ≤ b) (hx : w1.ownsRow base 2 1 (.slice (some ⟨b, 0, none⟩) n n) n (rowZ zeroM n kF))
    (hown : w'.ownsRow base 33 1 v' (kF + 1) (uF ++ [.slice (some ⟨b, 0, none⟩) n n])) (hg : w1.grownBy w' vF.ownBlock) (hat : v'.ownBlock = vF.ownBlock ∨ v'.ownBlock = some w1.heap.size) :
    NetQ (w'.setCell ⟨p, 1, none⟩ v') base p n kR (kF + 1) vR v' uR (uF ++ [.slice (some ⟨b, 0, none⟩) n n]) ∧ p < w'.heap.size ∧ w'.cell? ⟨p, 1, none⟩ = some vF ∧ w'.frozen? ⟨p, 1, none⟩ = false := by
  have h1 := h.below hb1
  have hl1 := hb1.size
  have hlen : uF.length = kF := by rw [h.F.len, rowsZ_len]
  have hF := h1.F.push hlen hx (fun g e => by
    have e2 : b = g := by injection e
    subst e2
    exact ⟨fun e' => by have := (h.F.lt _ e').2; omega, fun k u hu e' => by have := (h.F.ltIn hu _ e').2; omega⟩) hown hg hat
  rw [rowsZ_snoc] at hF
  have hpF : ∀ g, vF.ownBlock = some g → g ≠ p := fun g e e' => h.offp.2 (.inl (by rw [← e']; exact e))
  have hpb := hg.block p h1.lt (fun e => hpF p e.symm rfl)
  have hR : Own2 w' base 33 2 1 vR uR (rowsZ zeroM n kR) := own2_kept h1.R hg (fun g e hi => h.off g hi (.inl e))
  have hnew : ∀ g, InMat v' (uF ++ [.slice (some ⟨b, 0, none⟩) n n]) g → InMat vF uF g ∨ w.heap.size ≤ g := fun g hg' => by
    rcases inMat_snoc hg' hat (rfl : (Value.slice (some ⟨b, 0, none⟩) n n).ownBlock = some b) with h2 | h2 | h2
    · exact .inl h2
    · exact .inr (by omega)
    · exact .inr (by dsimp only at h2; omega)
  have hpn : ¬ InMat v' (uF ++ [.slice (some ⟨b, 0, none⟩) n n]) p := fun hp => by
    rcases hnew p hp with h2 | h2
    · exact h.offp.2 h2
    · have := h.lt; omega
  have hgs : w'.grownBy (w'.setCell ⟨p, 1, none⟩ v') (some p) := ⟨rfl, rfl, rfl, by simp, fun i hi hne => Below.heap_setCell _ _ _ _ (fun e => hne (by rw [e]))⟩
  have hpl : p < w'.heap.size := Nat.lt_of_lt_of_le h1.lt hg.size
  have hc0 : w'.cell? ⟨p, 0, none⟩ = some vR := (World.cell?_of_block (w := w1) (a := ⟨p, 0, none⟩) hpb).trans h1.room
  have hc1 : w'.cell? ⟨p, 1, none⟩ = some vF := (World.cell?_of_block (w := w1) (a := ⟨p, 1, none⟩) hpb).trans h1.flow
  have hf0 : w'.frozen? ⟨p, 0, none⟩ = false := (World.frozen?_of_block (w := w1) (a := ⟨p, 0, none⟩) hpb).trans h1.fr.1
  have hf1 : w'.frozen? ⟨p, 1, none⟩ = false := (World.frozen?_of_block (w := w1) (a := ⟨p, 1, none⟩) hpb).trans h1.fr.2
  refine ⟨⟨by simpa using hpl, h.ge, by rw [World.cell?_setCell_other _ _ _ _ (by simp)]; exact hc0, World.cell?_setCell_same _ _ _ hc1, ⟨by simpa using hf0, by simpa using hf1⟩,
    own2_kept hR hgs (fun g e => by injection e with e; rw [← e]; exact h.offp.1), own2_kept hF hgs (fun g e => by injection e with e; rw [← e]; exact hpn), fun g hR' hg' => ?_, h.offp.1, hpn⟩, hpl, hc1, hf1⟩
  rcases hnew g hg' with h2 | h2
  · exact h.off g hR' h2
  · have := (own2_in h.R hR').2
    omega
theorem NetQ.net (h : NetQ w base p n n n vR vF uR uF) : Net w base p n zeroM zeroM vR vF uR uF := ⟨h.lt, h.ge, h.room, h.flow, h.fr, h.R, h.F, h.off, h.offp⟩
end
/-- one number of the room is stored -/
theorem Net.storeR {w : World} {base p n u j g' cap' : Nat} {R F : Nat → Nat → Int} {vR vF : Value} {uR uF : List Value} (h : Net w base p n R F vR vF uR uF) (hu : u < n) (hx : uR[u]? = some (.slice (some ⟨g', 0, none⟩) n cap')) (x : Int) :
    Net (w.setCell ⟨g', j, none⟩ (.int .i64 x)) base p n (fun a b => if a = u ∧ b = j then x else R a b) F vR vF uR uF := by
  have hin : InMat vR uR g' := .inr ⟨u, _, hx, rfl⟩
  have hne : p ≠ g' := fun e => h.offp.1 (e ▸ hin)
  have hgn : w.grownBy (w.setCell ⟨g', j, none⟩ (.int .i64 x)) (some g') := ⟨rfl, rfl, rfl, by simp, fun i hi hne => Below.heap_setCell _ _ _ _ (fun e => hne (by rw [e]))⟩
  have hb : (w.setCell ⟨g', j, none⟩ (.int .i64 x)).heap[p]? = w.heap[p]? := Below.heap_setCell _ _ _ _ hne
  exact ⟨by simpa using h.lt, h.ge, (World.cell?_of_block (w := w) (a := ⟨p, 0, none⟩) hb).trans h.room, (World.cell?_of_block (w := w) (a := ⟨p, 1, none⟩) hb).trans h.flow,
    ⟨(World.frozen?_of_block (w := w) (a := ⟨p, 0, none⟩) hb).trans h.fr.1, (World.frozen?_of_block (w := w) (a := ⟨p, 1, none⟩) hb).trans h.fr.2⟩,
    h.R.store hu hx x, h.F.kept hgn (fun g e => by injection e with e; rw [← e]; exact h.off g' hin), h.off, h.offp⟩
theorem Net.storeF {w : World} {base p n u j g' cap' : Nat} {R F : Nat → Nat → Int} {vR vF : Value} {uR uF : List Value} (h : Net w base p n R F vR vF uR uF) (hu : u < n) (hx : uF[u]? = some (.slice (some ⟨g', 0, none⟩) n cap')) (x : Int) :
    Net (w.setCell ⟨g', j, none⟩ (.int .i64 x)) base p n R (fun a b => if a = u ∧ b = j then x else F a b) vR vF uR uF := by
  have hin : InMat vF uF g' := .inr ⟨u, _, hx, rfl⟩
  have hne : p ≠ g' := fun e => h.offp.2 (e ▸ hin)
  have hgn : w.grownBy (w.setCell ⟨g', j, none⟩ (.int .i64 x)) (some g') := ⟨rfl, rfl, rfl, by simp, fun i hi hne => Below.heap_setCell _ _ _ _ (fun e => hne (by rw [e]))⟩
  have hb : (w.setCell ⟨g', j, none⟩ (.int .i64 x)).heap[p]? = w.heap[p]? := Below.heap_setCell _ _ _ _ hne
  exact ⟨by simpa using h.lt, h.ge, (World.cell?_of_block (w := w) (a := ⟨p, 0, none⟩) hb).trans h.room, (World.cell?_of_block (w := w) (a := ⟨p, 1, none⟩) hb).trans h.flow,
    ⟨(World.frozen?_of_block (w := w) (a := ⟨p, 0, none⟩) hb).trans h.fr.1, (World.frozen?_of_block (w := w) (a := ⟨p, 1, none⟩) hb).trans h.fr.2⟩,
    h.R.kept hgn (fun g e => by injection e with e; rw [← e]; exact fun hi => h.off g' hi hin), h.F.store hu hx x, h.off, h.offp⟩
end Go.Proofs.YtmhgjgclclnmaaaGreat
/- Walks: the network of some bonds is made. -/


namespace Go.Proofs.YtmhgjgclclnmaaaGreat
open Go.RowKit Go.Shelf
attribute [local go_sem] BelowBy.cell BelowBy.cell_drew stillUpon givesUpon BelowBy.cell_drew2 BelowBy.cell_drew3

theorem infoIs : (Tryz.prog.info? 33).map (fun i => (i.zero, i.size, i.bytes)) = some (some (.slice none 0 0), 1, 24) := by kernel_rfl
def NetRes (w : World) (n : Nat) (R F : Nat → Nat → Int) (e : Ending) (w' : World) : Prop := ∃ p vR vF uR uF, e = .returned (.pointer (some ⟨p, 0, none⟩)) ∧ Net w' w.heap.size p n R F vR vF uR uF ∧ Below w.heap.size w w'
theorem roomM_bound {n : Nat} {bs : List Bd} (hb : BondsOk n bs) (m u v : Nat) : 0 ≤ roomM bs m u v ∧ roomM bs m u v ≤ 4 * (m : Int) := by
  induction m with
  | zero => simp [roomM]
  | succ m ih =>
    simp only [roomM]
    cases he : bs[m]? with
    | none => simp; omega
    | some e =>
      have h2 := hb.s m e he
      dsimp only
      by_cases hj : jo e u v = true
      · rw [if_pos hj]; omega
      · rw [if_neg hj]; omega
theorem roomM_succ {n : Nat} {bs : List Bd} (hb : BondsOk n bs) {m : Nat} {e : Bd} (he : bs[m]? = some e) : (fun a b => if a = e.b ∧ b = e.a then roomM bs m e.b e.a + e.s else if a = e.a ∧ b = e.b then roomM bs m e.a e.b + e.s else roomM bs m a b) = roomM bs (m + 1) := by
  funext a b
  have hne := hb.ne m e he
  simp only [roomM, he]
  by_cases c1 : a = e.b ∧ b = e.a
  · have hj : jo e a b = true := by simp [jo, c1]
    rw [if_pos c1, if_pos hj, c1.1, c1.2]
  · by_cases c2 : a = e.a ∧ b = e.b
    · have hj : jo e a b = true := by simp [jo, c2]
      rw [if_neg c1, if_pos c2, if_pos hj, c2.1, c2.2]
    · have hj : ¬ jo e a b = true := by
        simp only [jo, decide_eq_true_eq]
        rintro (⟨h1, h2⟩ | ⟨h1, h2⟩)
        · exact c2 ⟨h1.symm, h2.symm⟩
        · exact c1 ⟨h2.symm, h1.symm⟩
      rw [if_neg c1, if_neg c2, if_neg hj]
      omega
set_option maxRecDepth 100000 in
set_option maxHeartbeats 4000000 in
theorem networkOf_any (n : Nat) (B : Option Addr) (m c : Nat) (bs : List Bd) (w : World) (hB : RdSl 3 RBd w B m bs) (hb : BondsOk n bs) (hn : n ≤ 100000) (hm : m ≤ 1000000) :
    Calls Tryz.prog 94 #[.int .i64 (n : Int), .slice B m c] w (NetRes w n (roomM bs m) zeroM) := by
  obtain ⟨i0, hi, hz0, hz1, hz2⟩ := info_parts infoIs
  have hmk := fun W => run_makeN (P := Tryz.prog) 33 2 _ 1 8 Tryz.underlying33 infoI n (by omega) (by omega) W
  have hBH := Lib.hid hB
  have hbH := Lib.hid hb
  have hml := Lib.hid hB.len
  clear hB hb
  go_enter Tryz.func94, Tryz.ntmps94
  go_wp2
  go_loopg [11] n (fun g i wr => ∃ (k : Nat) (vR vF : Value) (uR uF : List Value), k + g = n ∧ i = .int .i64 (k : Int) ∧ Hid (NetQ wr w.heap.size w.heap.size n k k vR vF uR uF) ∧ Hid (Below w.heap.size w wr))
  case atStart =>
    refine ⟨0, .slice none 0 0, .slice none 0 0, [], [], by omega, rfl, Lib.hid ⟨by simp, Nat.le_refl _, by go_simp, by go_simp, ⟨by go_simp, by go_simp⟩, Own2.nil _ _ _ _ _, Own2.nil _ _ _ _ _, fun g h => ?_, fun h => ?_, fun h => ?_⟩, Lib.hid (bl_al (bl_refl _) _)⟩
    all_goals
      rcases h with h | ⟨k, u, hu, _⟩
      · simp [Value.ownBlock] at h
      · simp at hu
  case round =>
    obtain ⟨k, vR, vF, uR, uF, hk, rfl, hq, hbw⟩ := hrel
    by_cases hkn : k < n
    · have hsz := hbw.out.size
      have c0 := hq.out.room
      have f0 := hq.out.fr.1
      have l0 := hq.out.lt
      go_wp2
      refine wp_region_ord [(0, .p), (1, .q), (2, .q), (3, .q), (4, .q), (5, .q), (6, .g), (7, .g), (8, .b), (9, .q), (10, .q), (11, .b)] (by kernel_rfl) (by kernel_rfl) ?_
      simp only [pick, List.filterMap_cons, List.filterMap_nil, List.getElem?_toArray, List.getElem?_cons_zero, List.getElem?_cons_succ, Option.map_some]
      repeat (first | ((with_reducible refine wpD_p (fun K hK => ?_)); go_simp; refine hK _ ?_; clear hK K) | ((with_reducible refine wpD_q (fun K hK => ?_)); go_simp; (first | refine hK _ ?_ | (go_bits; refine hK _ ?_) | (go_bits; go_simp; refine hK _ ?_)); clear hK K))
      with_reducible refine wpD_g (fun K hK => ?_)
      go_simp
      refine ⟨Grew.of_alloc _, hK _ _ ?_⟩
      clear hK K
      repeat (first | ((with_reducible refine wpD_p (fun K hK => ?_)); go_simp; refine hK _ ?_; clear hK K) | ((with_reducible refine wpD_q (fun K hK => ?_)); go_simp; (first | refine hK _ ?_ | (go_bits; refine hK _ ?_) | (go_bits; go_simp; refine hK _ ?_)); clear hK K))
      with_reducible refine wpD_g (fun K hK => ?_)
      go_simp
      refine ⟨Grew.of_alloc _, hK _ _ ?_⟩
      clear hK K
      have hb1 : Below wr.heap.size wr ((wr.alloc (Obj.cells (madeCells #[Value.int .i64 0] n) 2)).alloc (Obj.cells #[Value.slice (some ⟨wr.heap.size, 0, none⟩) n n] 33)).drew := by exact bel_
      have hb1H := Lib.hid hb1
      have hx : ((wr.alloc (Obj.cells (madeCells #[Value.int .i64 0] n) 2)).alloc (Obj.cells #[Value.slice (some ⟨wr.heap.size, 0, none⟩) n n] 33)).drew.ownsRow w.heap.size 2 1 (.slice (some ⟨wr.heap.size, 0, none⟩) n n) n (rowZ zeroM n k) := by
        rw [← made_row]
        exact (World.ownsRow_lit wr (madeCells #[Value.int .i64 0] n) n hsz (by unfold maxLen; omega) (by rw [size_madeCells, Nat.mul_one])).alloc _
      have hxH := Lib.hid hx
      clear hb1 hx
      have hlR := Lib.hid (show uR.length = k by rw [hq.out.R.len, rowsZ_len])
      refine wpD_append_at rfl _ _ 63 rfl w.heap.size 33 i0 (.slice none 0 0) 1 24 Tryz.underlying63 hi hz0 hz1 hz2 rfl (by decide) vR k uR (by go_simp) ((hq.out.below hb1H.out).R.outerN hlR.out) ⟨wr.heap.size + 1, 0, none⟩ 1 1 [.slice (some ⟨wr.heap.size, 0, none⟩) n n] (by go_simp) rfl ?hnews (fun x hx => by simp at hx; subst hx; rfl) (by unfold maxLen; omega) (by omega) (by simp; omega) ?_
      case hnews =>
        have := cell_one_new (wr.alloc (Obj.cells (madeCells #[Value.int .i64 0] n) 2)) (.slice (some ⟨wr.heap.size, 0, none⟩) n n) 33
        simpa using this
      intro v1 w2 hown hgrow hat
      obtain ⟨g1, cap1, rfl⟩ := ownsRow_succ hown
      obtain ⟨hq2, l2, c2, f2⟩ := hq.out.growR (b := wr.heap.size) (c := 0) hb1H.out (Nat.le_refl _) hxH.out hown hgrow hat
      have hq2H := Lib.hid hq2
      have hbq : Below wr.heap.size wr (w2.setCell ⟨w.heap.size, 0, none⟩ (.slice (some ⟨g1, 0, none⟩) (k + 1) cap1)) ∨ True := .inr trivial
      have hbw2 : Below w.heap.size w (w2.setCell ⟨w.heap.size, 0, none⟩ (.slice (some ⟨g1, 0, none⟩) (k + 1) cap1)) := (((hbw.out.trans (hb1H.out.mono hsz)).grown hgrow (by simp; omega) (fun g e => (hq.out.R.lt g e).1)).setCell (p := ⟨w.heap.size, 0, none⟩) (Nat.le_refl _) _)
      have hbw2H := Lib.hid hbw2
      clear hown hgrow hat hq2 hbw2 hbq c0 f0
      repeat (first | ((with_reducible refine wpD_p (fun K hK => ?_)); go_simp; refine hK _ ?_; clear hK K) | ((with_reducible refine wpD_q (fun K hK => ?_)); go_simp; (first | refine hK _ ?_ | (go_bits; refine hK _ ?_) | (go_bits; go_simp; refine hK _ ?_)); clear hK K))
      with_reducible refine wpD_b (fun K hK => ?_)
      go_simp
      refine hK _ _ ?_
      clear hK K
      with_reducible refine wpD_nil ?_
      obtain ⟨W2, hW2⟩ : ∃ W2, W2 = w2.setCell ⟨w.heap.size, 0, none⟩ (.slice (some ⟨g1, 0, none⟩) (k + 1) cap1) := ⟨_, rfl⟩
      rw [← hW2] at hq2H hbw2H ⊢
      clear hW2 c2 f2 l2 hb1H hxH l0
      have hsz2 := hbw2H.out.size
      have c1 := hq2H.out.flow
      have f1 := hq2H.out.fr.2
      have l1 := hq2H.out.lt
      go_wp2
      refine wp_region_ord [(0, .p), (1, .q), (2, .q), (3, .q), (4, .q), (5, .q), (6, .g), (7, .g), (8, .b), (9, .q), (10, .q), (11, .b)] (by kernel_rfl) (by kernel_rfl) ?_
      simp only [pick, List.filterMap_cons, List.filterMap_nil, List.getElem?_toArray, List.getElem?_cons_zero, List.getElem?_cons_succ, Option.map_some]
      repeat (first | ((with_reducible refine wpD_p (fun K hK => ?_)); go_simp; refine hK _ ?_; clear hK K) | ((with_reducible refine wpD_q (fun K hK => ?_)); go_simp; (first | refine hK _ ?_ | (go_bits; refine hK _ ?_) | (go_bits; go_simp; refine hK _ ?_)); clear hK K))
      with_reducible refine wpD_g (fun K hK => ?_)
      go_simp
      refine ⟨Grew.of_alloc _, hK _ _ ?_⟩
      clear hK K
      repeat (first | ((with_reducible refine wpD_p (fun K hK => ?_)); go_simp; refine hK _ ?_; clear hK K) | ((with_reducible refine wpD_q (fun K hK => ?_)); go_simp; (first | refine hK _ ?_ | (go_bits; refine hK _ ?_) | (go_bits; go_simp; refine hK _ ?_)); clear hK K))
      with_reducible refine wpD_g (fun K hK => ?_)
      go_simp
      refine ⟨Grew.of_alloc _, hK _ _ ?_⟩
      clear hK K
      have hb1 : Below W2.heap.size W2 ((W2.alloc (Obj.cells (madeCells #[Value.int .i64 0] n) 2)).alloc (Obj.cells #[Value.slice (some ⟨W2.heap.size, 0, none⟩) n n] 33)).drew := by exact bel_
      have hb1H := Lib.hid hb1
      have hx : ((W2.alloc (Obj.cells (madeCells #[Value.int .i64 0] n) 2)).alloc (Obj.cells #[Value.slice (some ⟨W2.heap.size, 0, none⟩) n n] 33)).drew.ownsRow w.heap.size 2 1 (.slice (some ⟨W2.heap.size, 0, none⟩) n n) n (rowZ zeroM n k) := by
        rw [← made_row]
        exact (World.ownsRow_lit W2 (madeCells #[Value.int .i64 0] n) n hsz2 (by unfold maxLen; omega) (by rw [size_madeCells, Nat.mul_one])).alloc _
      have hxH := Lib.hid hx
      clear hb1 hx
      have hlF := Lib.hid (show uF.length = k by rw [hq.out.F.len, rowsZ_len])
      refine wpD_append_at rfl _ _ 63 rfl w.heap.size 33 i0 (.slice none 0 0) 1 24 Tryz.underlying63 hi hz0 hz1 hz2 rfl (by decide) vF k uF (by go_simp) ((hq2H.out.below hb1H.out).F.outerN hlF.out) ⟨W2.heap.size + 1, 0, none⟩ 1 1 [.slice (some ⟨W2.heap.size, 0, none⟩) n n] (by go_simp) rfl ?hnews2 (fun x hx => by simp at hx; subst hx; rfl) (by unfold maxLen; omega) (by omega) (by simp; omega) ?_
      case hnews2 =>
        have := cell_one_new (W2.alloc (Obj.cells (madeCells #[Value.int .i64 0] n) 2)) (.slice (some ⟨W2.heap.size, 0, none⟩) n n) 33
        simpa using this
      intro v2 w3 hown hgrow hat
      obtain ⟨g2, cap2, rfl⟩ := ownsRow_succ hown
      obtain ⟨hq3, l3, c3, f3⟩ := hq2H.out.growF (b := W2.heap.size) (c := 0) hb1H.out (Nat.le_refl _) hxH.out hown hgrow hat
      have hq3H := Lib.hid hq3
      have hbw3 : Below w.heap.size w (w3.setCell ⟨w.heap.size, 1, none⟩ (.slice (some ⟨g2, 0, none⟩) (k + 1) cap2)) := (((hbw2H.out.trans (hb1H.out.mono hsz2)).grown hgrow (by simp; omega) (fun g e => (hq2H.out.F.lt g e).1)).setCell (p := ⟨w.heap.size, 1, none⟩) (Nat.le_refl _) _)
      have hbw3H := Lib.hid hbw3
      clear hown hgrow hat hq3 hbw3 c1 f1
      repeat (first | ((with_reducible refine wpD_p (fun K hK => ?_)); go_simp; refine hK _ ?_; clear hK K) | ((with_reducible refine wpD_q (fun K hK => ?_)); go_simp; (first | refine hK _ ?_ | (go_bits; refine hK _ ?_) | (go_bits; go_simp; refine hK _ ?_)); clear hK K))
      with_reducible refine wpD_b (fun K hK => ?_)
      go_simp
      refine hK _ _ ?_
      clear hK K
      with_reducible refine wpD_nil ?_
      go_wp2
      go_roundg (n - (k + 1))
      case measure => omega
      case rel => exact ⟨k + 1, _, _, _, _, by omega, by go_num, hq3H, hbw3H⟩
    · obtain rfl : k = n := by omega
      have hnet : Hid (Net wr w.heap.size w.heap.size k (roomM bs 0) zeroM vR vF uR uF) := Lib.hid hq.out.net
      clear hmk hq
      go_wp2
      go_loopg [38] m (fun g i wr => ∃ (j : Nat), j + g = m ∧ i = .int .i64 (j : Int) ∧ Hid (Net wr w.heap.size w.heap.size k (roomM bs j) zeroM vR vF uR uF) ∧ Hid (Below w.heap.size w wr))
      case atStart => exact ⟨0, by omega, rfl, hnet, hbw⟩
      case round =>
        clear hnet hbw
        obtain ⟨j, hj, rfl, hnet, hbw⟩ := hrel
        by_cases hjm : j < m
        · have hBw := hBH.out.below RBd.stable hbw.out
          obtain ⟨bb, ob, rfl, hbb, hbc⟩ := hBw.ptr (by omega)
          obtain ⟨e, he⟩ := hBw.get hjm
          obtain ⟨e0, e1, e2⟩ := hbc j e he
          have hea := hbH.out.a j e he
          have heb := hbH.out.b j e he
          have hne := hbH.out.ne j e he
          have hs4 := hbH.out.s j e he
          have hsucc := Lib.hid (roomM_succ hbH.out he)
          obtain ⟨g, cap, g', cap', hvR, c1, l1, l2, _, hbg, hx, hown, hcols⟩ := hnet.out.R.at hea
          have c2 := hcols e.b heb
          have f2 := hown.frozenAt e.b
          have c0 := hnet.out.room
          rw [hvR] at c0
          have l0 := hnet.out.lt
          have hr1 := roomM_bound hbH.out j e.a e.b
          have hr2 := roomM_bound hbH.out j e.b e.a
          have hxH := Lib.hid hx
          have hvH := Lib.hid hvR
          have hownH := Lib.hid hown
          obtain ⟨r1, hr1E⟩ : ∃ r, roomM bs j e.a e.b = r := ⟨_, rfl⟩
          rw [hr1E] at c2 hr1
          have hr1H := Lib.hid hr1E
          have hw1 : IntKind.i64.wrap (r1 + e.s) = r1 + e.s := IntWalk.i64_in _ ⟨by omega, by omega⟩
          have hneH := Lib.hid hne
          clear hbc he hBw hcols hx hvR hown hr1E hne
          go_wp2
          refine wp_region_ord [(0, .q), (1, .q), (2, .q), (3, .q), (4, .q), (5, .q), (6, .q), (7, .q), (8, .q), (9, .q), (10, .q), (11, .q), (12, .q), (13, .q), (14, .q), (15, .q), (16, .b)] (by kernel_rfl) (by kernel_rfl) ?_
          simp only [pick, List.filterMap_cons, List.filterMap_nil, List.getElem?_toArray, List.getElem?_cons_zero, List.getElem?_cons_succ, Option.map_some]
          repeat (first | ((with_reducible refine wpD_p (fun K hK => ?_)); go_simp; refine hK _ ?_; clear hK K) | ((with_reducible refine wpD_q (fun K hK => ?_)); go_simp; (first | refine hK _ ?_ | (go_bits; refine hK _ ?_) | (go_bits; go_simp; refine hK _ ?_)); clear hK K))
          with_reducible refine wpD_b (fun K hK => ?_)
          go_simp
          refine hK _ _ ?_
          clear hK K
          with_reducible refine wpD_nil ?_
          have hg'r : g' < wr.heap.size := l2
          obtain ⟨W2, hW2⟩ : ∃ W2, W2 = ((wr.setCell ⟨g', e.b, none⟩ (.int .i64 (r1 + e.s))).alloc (Obj.cells #[.int .i64 (e.a : Int), .int .i64 (e.b : Int), .int .i64 e.s] 49)).drew := ⟨_, rfl⟩
          rw [← hW2]
          have hnet2 : Net W2 w.heap.size w.heap.size k (fun a b => if a = e.a ∧ b = e.b then r1 + e.s else roomM bs j a b) zeroM vR vF uR uF := by
            rw [hW2]
            exact (hnet.out.storeR hea hxH.out (r1 + e.s)).below (by exact bel_)
          have hbw2 : Below w.heap.size w W2 := by
            rw [hW2]
            exact ((hbw.out.setCell (p := ⟨g', e.b, none⟩) hbg _).alloc (by simp; exact hbw.out.size) _).drew
          have hW0 : W2.heap.size = wr.heap.size + 1 := by rw [hW2]; simp
          have b0 : W2.cell? ⟨wr.heap.size, 0, none⟩ = some (.int .i64 (e.a : Int)) := by rw [hW2]; go_simp
          have b1 : W2.cell? ⟨wr.heap.size, 1, none⟩ = some (.int .i64 (e.b : Int)) := by rw [hW2]; go_simp
          have b2 : W2.cell? ⟨wr.heap.size, 2, none⟩ = some (.int .i64 e.s) := by rw [hW2]; go_simp
          have lb : wr.heap.size < W2.heap.size := by omega
          have hnet2H := Lib.hid hnet2
          have hbw2H := Lib.hid hbw2
          clear hW2 hnet2 hbw2 hW0 c0 c1 c2 f2 l0 l1 l2 hg'r e0 e1 e2
          obtain ⟨g5, cap5, g6, cap6, hvR5, c1, l1, l2, _, hbg6, hx5, hown5, hcols5⟩ := hnet2H.out.R.at heb
          have c2 := hcols5 e.a hea
          have f2 := hown5.frozenAt e.a
          have c0 := hnet2H.out.room
          rw [hvR5] at c0
          have l0 := hnet2H.out.lt
          rw [if_neg (fun c => hneH.out c.1.symm)] at c2
          obtain ⟨r2, hr2E⟩ : ∃ r, roomM bs j e.b e.a = r := ⟨_, rfl⟩
          rw [hr2E] at c2 hr2
          have hr2H := Lib.hid hr2E
          have hw2 : IntKind.i64.wrap (r2 + e.s) = r2 + e.s := IntWalk.i64_in _ ⟨by omega, by omega⟩
          have hx5H := Lib.hid hx5
          clear hcols5 hx5 hvR5 hown5 hr2E hw1
          go_wp2
          refine wp_region_ord [(0, .q), (1, .q), (2, .q), (3, .q), (4, .q), (5, .q), (6, .q), (7, .q), (8, .q), (9, .q), (10, .q), (11, .q), (12, .q), (13, .q), (14, .q), (15, .q), (16, .b)] (by kernel_rfl) (by kernel_rfl) ?_
          simp only [pick, List.filterMap_cons, List.filterMap_nil, List.getElem?_toArray, List.getElem?_cons_zero, List.getElem?_cons_succ, Option.map_some]
          repeat (first | ((with_reducible refine wpD_p (fun K hK => ?_)); go_simp; refine hK _ ?_; clear hK K) | ((with_reducible refine wpD_q (fun K hK => ?_)); go_simp; (first | refine hK _ ?_ | (go_bits; refine hK _ ?_) | (go_bits; go_simp; refine hK _ ?_)); clear hK K))
          with_reducible refine wpD_b (fun K hK => ?_)
          go_simp
          refine hK _ _ ?_
          clear hK K
          with_reducible refine wpD_nil ?_
          go_wp2
          go_roundg (m - (j + 1))
          case measure => omega
          case rel =>
            refine ⟨j + 1, by omega, by go_num, Lib.hid ?_, Lib.hid ?_⟩
            · have h3 := hnet2H.out.storeR (j := e.a) heb hx5H.out (r2 + e.s)
              have hM : (fun a b => if a = e.b ∧ b = e.a then r2 + e.s else (fun a b => if a = e.a ∧ b = e.b then r1 + e.s else roomM bs j a b) a b) = roomM bs (j + 1) := by
                rw [← hsucc.out, hr1H.out, hr2H.out]
              rw [hM] at h3
              exact h3.below (by exact bel_)
            · exact (hbw2H.out.setCell (p := ⟨g6, e.a, none⟩) hbg6 _).drew
        · obtain rfl : j = m := by omega
          go_wp2
          go_ret
          exact ⟨_, vR, vF, uR, uF, rfl, hnet.out, hbw.out⟩
end Go.Proofs.YtmhgjgclclnmaaaGreat
/- Walks: units are sent along the first shortest ways. -/



namespace Go.Proofs.YtmhgjgclclnmaaaGreat
open Go.RowKit Go.Shelf
attribute [local go_sem] BelowBy.cell BelowBy.cell_drew stillUpon givesUpon BelowBy.cell_drew2 BelowBy.cell_drew3

theorem flowM_bound {n : Nat} {bs : List Bd} (hb : BondsOk n bs) {f : Nat → Int} (h : InvF bs f) (m u v : Nat) : -(4 * (m : Int)) ≤ flowM bs f m u v ∧ flowM bs f m u v ≤ 4 * (m : Int) := by
  induction m with
  | zero => simp [flowM]
  | succ m ih =>
    simp only [flowM]
    cases he : bs[m]? with
    | none => simp; omega
    | some e =>
      have h1 := h m e he
      have h2 := hb.s m e he
      dsimp only
      have hk : ∃ d : Int, (if e.a = u ∧ e.b = v then f m else if e.a = v ∧ e.b = u then -f m else 0) = d ∧ -4 ≤ d ∧ d ≤ 4 := by
        by_cases c1 : e.a = u ∧ e.b = v
        · exact ⟨_, if_pos c1, by omega, by omega⟩
        · by_cases c2 : e.a = v ∧ e.b = u
          · exact ⟨_, (if_neg c1).trans (if_pos c2), by omega, by omega⟩
          · exact ⟨0, (if_neg c1).trans (if_neg c2), by omega, by omega⟩
      obtain ⟨d, hd, h3, h4⟩ := hk
      rw [hd]
      omega
theorem freeE_eq {n : Nat} {bs : List Bd} (hb : BondsOk n bs) {f : Nat → Int} (h : InvF bs f) : freeE (roomM bs bs.length) (flowM bs f bs.length) = edgeB bs f := by
  funext u v
  exact free_edge hb h u v
theorem pushM_eq {F : Nat → Nat → Int} {u v : Nat} (h : u ≠ v) : (fun a b => if a = v ∧ b = u then F v u - 1 else (fun a b => if a = u ∧ b = v then F u v + 1 else F a b) a b) = pushM F u v := by
  funext a b
  unfold pushM
  by_cases c1 : a = v ∧ b = u
  · have c2 : ¬ (a = u ∧ b = v) := fun c => h (by rw [← c.1, c1.1])
    rw [if_pos c1, if_neg c2, if_pos c1]
  · rw [if_neg c1]
    by_cases c2 : a = u ∧ b = v
    · rw [if_pos c2]; exact if_pos c2
    · rw [if_neg c2, if_neg c1]; exact if_neg c2
theorem flowV_ge {n : Nat} {bs : List Bd} (hb : BondsOk n bs) {x y k : Nat} (hx : x < n) (hxy : x ≠ y) (h : ∀ j, j < k → ¬ stopF n bs x y j) : k ≤ flowV n bs x y := by
  have hs := exists_stop hb hx hxy
  obtain ⟨K, h1, h2⟩ := exists_least hs
  rw [flowV_eq h1 h2]
  rcases Nat.lt_or_ge K k with h3 | h3
  · exact (h K h3 h1).elim
  · exact h3
/-- what is left of sending: the value and the network -/
def SendRes (w : World) (base p n : Nat) (bs : List Bd) (x y M : Nat) (vR vF : Value) (uR uF : List Value) (e : Ending) (w' : World) : Prop :=
  e = .returned (.int .i64 ((min (flowV n bs x y) M : Nat) : Int)) ∧ Net w' base p n (roomM bs bs.length) (flowM bs (iterF n bs x y (min (flowV n bs x y) M)) bs.length) vR vF uR uF ∧ Below base w w'
set_option maxRecDepth 100000 in
set_option maxHeartbeats 4000000 in
theorem send_any (base p n x y M : Nat) (bs : List Bd) (vR vF : Value) (uR uF : List Value) (w : World) (h : Net w base p n (roomM bs bs.length) zeroM vR vF uR uF) (hb : BondsOk n bs) (hx : x < n) (hy : y < n) (hxy : x ≠ y) (hn : n ≤ 100000) (hm : bs.length ≤ 1000000) (hM : M ≤ 1099511627776) (hbase : base ≤ w.heap.size) :
    Calls Tryz.prog 95 #[.pointer (some ⟨p, 0, none⟩), .int .i64 (x : Int), .int .i64 (y : Int), .int .i64 (M : Int)] w (SendRes w base p n bs x y M vR vF uR uF) := by
  have hN := Lib.hid h
  have hbH := Lib.hid hb
  obtain ⟨m, hmE⟩ : ∃ m, bs.length = m := ⟨_, rfl⟩
  have hmH := Lib.hid hmE
  rw [hmE] at hm
  clear h hb hmE
  have hqn := fun W A k c => Lib.run_eql_slice_nil (P := Tryz.prog) W 169 3 A k c 0 0 Tryz.underlying169
  go_enter Tryz.func95, Tryz.ntmps95
  go_wp2
  go_loopg [9] (8 * m + 1) (fun gk v wr => ∃ k : Nat, k + gk = 8 * m + 1 ∧ v = .int .i64 (k : Int) ∧ k ≤ M ∧ Hid (∀ j, j < k → ¬ stopF n bs x y j) ∧ Hid (Net wr base p n (roomM bs bs.length) (flowM bs (iterF n bs x y k) bs.length) vR vF uR uF) ∧ Hid (Below base w wr))
  case atStart =>
    refine ⟨0, by omega, rfl, by omega, Lib.hid (fun j hj => by omega), Lib.hid ?_, Lib.hid (Below.refl _ _)⟩
    have : flowM bs (iterF n bs x y 0) bs.length = zeroM := by
      funext a b
      have key : ∀ k, flowM bs (fun _ => 0) k a b = 0 := by
        intro k
        induction k with
        | zero => rfl
        | succ k ih =>
          simp only [flowM, ih]
          cases bs[k]? with
          | none => rfl
          | some e => simp
      exact key _
    rw [this]
    exact hN.out
  case round =>
    obtain ⟨k, hk, rfl, hkM, hns, hnet, hbw⟩ := hrel
    have hinv := Lib.hid (iterF_inv hbH.out x y k)
    have hfe := Lib.hid (freeE_eq hbH.out hinv.out)
    have hsz := Nat.le_trans hbase hbw.out.size
    cases hw : wayTo n (edgeB bs (iterF n bs x y k)) x y with
    | none =>
      have hstop := Lib.hid (show stopF n bs x y k from hw)
      have hv := Lib.hid (flowV_eq hstop.out hns.out)
      have hwH := Lib.hid hw
      clear hw
      go_wp2_with (go_at_call 102; refine (way_any base p n x y _ _ vR vF uR uF _ hnet.out hx hy hn).mono ?_; rintro e w2 ⟨hb2, he⟩; rw [hfe.out, hwH.out] at he; have he2 : e = .returned (.slice none 0 0) := he; subst he2; have hb2H := Lib.hid hb2; clear hb2 he)
      go_ret
      have hmin : min (flowV n bs x y) M = k := by rw [hv.out]; omega
      rw [SendRes, hmin]
      exact ⟨rfl, hnet.out.below hb2H.out, hbw.out.trans (hb2H.out.mono hsz)⟩
    | some W =>
      have hnstop := Lib.hid (show ¬ stopF n bs x y k from fun h => by rw [stopF, hw] at h; cases h)
      have hwH := Lib.hid hw
      clear hw
      by_cases hMk : M ≤ k
      · obtain rfl : k = M := by omega
        go_wp2_with (go_at_call 102; refine (way_any base p n x y _ _ vR vF uR uF _ hnet.out hx hy hn).mono ?_; rintro e w2 ⟨hb2, he⟩; rw [hfe.out, hwH.out] at he; obtain ⟨gW, cW, rfl, hrowW⟩ := he; have hb2H := Lib.hid hb2; have hrowH := Lib.hid hrowW; clear hb2 hrowW)
        go_ret
        have hge := flowV_ge hbH.out hx hxy (k := k) hns.out
        have hmin : min (flowV n bs x y) k = k := by omega
        rw [SendRes, hmin]
        exact ⟨rfl, hnet.out.below hb2H.out, hbw.out.trans (hb2H.out.mono hsz)⟩
      · have hlt : k < M := by omega
        have hleft := iterF_left hbH.out hx hxy (k := k + 1) (fun j hj => by
          rcases Nat.lt_succ_iff_lt_or_eq.1 hj with hj | rfl
          · exact hns.out j hj
          · exact hnstop.out)
        have hk8 : k + 1 ≤ 8 * m := by have := hmH.out; omega
        go_wp2_with (go_at_call 102; refine (way_any base p n x y _ _ vR vF uR uF _ hnet.out hx hy hn).mono ?_; rintro e w2 ⟨hb2, he⟩; rw [hfe.out, hwH.out] at he; obtain ⟨gW, cW, rfl, hrowW⟩ := he; have hb2H := Lib.hid hb2; have hrowH := Lib.hid hrowW; clear hb2 hrowW)
        obtain ⟨D, hD, hW, hWl⟩ := wayTo_some hwH.out
        have hDH := Lib.hid hD
        have hWH := Lib.hid hW
        have hWlH := Lib.hid hWl
        have hDn := wayL_short hx hD
        have hwg := hrowH.out.lt gW rfl
        obtain ⟨hwg1, hwg2⟩ := hwg
        obtain ⟨N, hNE⟩ : ∃ N, W.length = N := ⟨_, rfl⟩
        rw [hNE] at hrowH ⊢
        have hNl : N ≤ D + 1 := by omega
        have hNg : D + 1 ≤ N := by omega
        clear hD hW hWl hNE
        have hnet2 := Lib.hid (hnet.out.below hb2H.out)
        have hbw2 := Lib.hid (hbw.out.trans (hb2H.out.mono hsz))
        have hwl : gW < w2.heap.size := hwg2
        obtain ⟨wo, rfl⟩ : ∃ wo : World, wo = wr := ⟨_, rfl⟩
        go_loopg [11] D (fun gk i wr => ∃ t j : Nat, t + gk = D ∧ i = .int .i64 (j : Int) ∧ Hid (j = t + 1) ∧ 1 ≤ j ∧ Hid (Net wr base p n (roomM bs bs.length) (matK (flowM bs (iterF n bs x y k) bs.length) W t) vR vF uR uF) ∧ Hid (Below base w wr) ∧ Hid (wr.ownsRow wo.heap.size 3 1 (.slice (some ⟨gW, 0, none⟩) N cW) N ((intsI W).map (Value.int .i64))))
        case atStart => exact ⟨0, 1, by omega, rfl, Lib.hid rfl, by omega, hnet2, hbw2, hrowH⟩
        case round =>
          clear hnet2 hbw2 hrowH hwl hwg2 hb2H
          obtain ⟨t, j, ht, rfl, hjt, hj1, hnet2, hbw2, hrowH⟩ := hrel
          by_cases htD : t < D
          · obtain ⟨u, hu⟩ : ∃ u, W[t]? = some u := ⟨_, List.getElem?_eq_getElem (by have := hWlH.out; omega)⟩
            obtain ⟨v, hv⟩ : ∃ v, W[t + 1]? = some v := ⟨_, List.getElem?_eq_getElem (by have := hWlH.out; omega)⟩
            have hu2 := hu
            have hv2 := hv
            rw [hWH.out] at hu2 hv2
            obtain ⟨hun, _, hdu, _⟩ := wayL_spec D x hx hDH.out t u hu2
            obtain ⟨hvn, _, hdv, _⟩ := wayL_spec D x hx hDH.out (t + 1) v hv2
            have huv : u ≠ v := fun e => by
              rw [e, hdv] at hdu
              injection hdu with hdu
              omega
            have hfl := augK_flowM hbH.out hx hDH.out t (by omega)
            rw [← hWH.out] at hfl
            have hbd1 := flowM_bound hbH.out (augK_inv hinv.out (W := W) t) bs.length u v
            have hbd2 := flowM_bound hbH.out (augK_inv hinv.out (W := W) t) bs.length v u
            rw [hfl] at hbd1 hbd2
            have hms := Lib.hid (matK_succ (F := flowM bs (iterF n bs x y k) bs.length) hu hv)
            obtain ⟨F0, hF0⟩ : ∃ F0, matK (flowM bs (iterF n bs x y k) bs.length) W t = F0 := ⟨_, rfl⟩
            rw [hF0] at hnet2 hbd1 hbd2 hms
            rw [hmH.out] at hbd1 hbd2
            have cw1 := (hrowH.out.cellAt t (by omega)).trans (by simp [intsI, hu] : _ = some (Value.int .i64 (u : Int)))
            have cw2 := (hrowH.out.cellAt (t + 1) (by omega)).trans (by simp [intsI, hv] : _ = some (Value.int .i64 (v : Int)))
            have lw := (hrowH.out.lt gW rfl).2
            obtain ⟨g, cap, g', cap', hvF, c1, l1, l2, _, hbg, hx1, hown, hcols⟩ := hnet2.out.F.at hun
            have c2 := hcols v hvn
            have f2 := hown.frozenAt v
            have c0 := hnet2.out.flow
            rw [hvF] at c0
            have l0 := hnet2.out.lt
            obtain ⟨r1, hr1E⟩ : ∃ r, F0 u v = r := ⟨_, rfl⟩
            rw [hr1E] at c2 hbd1
            have hr1H := Lib.hid hr1E
            have hx1H := Lib.hid hx1
            have huvH := Lib.hid huv
            have hw1 : IntKind.i64.wrap (r1 + 1) = r1 + 1 := IntWalk.i64_in _ ⟨by omega, by omega⟩
            have hbwo := hbw.out.size
            have hw0 : IntKind.i64.wrap ((j : Int) - 1) = (t : Int) := by
              rw [IntWalk.i64_in _ ⟨by omega, by have := hjt.out; omega⟩]
              have := hjt.out
              omega
            have htD1 : t < N := by omega
            have htD2 : j < N := by have := hjt.out; omega
            rw [← hjt.out] at cw2
            have hgne := Lib.hid (show g' ≠ gW from fun e => by
              have := hnet.out.F.lt (g := g') (.inr ⟨u, _, hx1, rfl⟩)
              omega)
            have hu2H := Lib.hid hu
            have hv2H := Lib.hid hv
            clear hu hv hu2 hv2 hdu hdv huv hfl hF0 hvF hcols hown hr1E hx1
            go_wp2
            refine wp_region_ord [(0, .q), (1, .q), (2, .q), (3, .q), (4, .q), (5, .q), (6, .q), (7, .q), (8, .q), (9, .q), (10, .q), (11, .q), (12, .q), (13, .q), (14, .q), (15, .q), (16, .q), (17, .q), (18, .q), (19, .b)] (by kernel_rfl) (by kernel_rfl) ?_
            simp only [pick, List.filterMap_cons, List.filterMap_nil, List.getElem?_toArray, List.getElem?_cons_zero, List.getElem?_cons_succ, Option.map_some]
            repeat (first | ((with_reducible refine wpD_p (fun K hK => ?_)); go_simp; refine hK _ ?_; clear hK K) | ((with_reducible refine wpD_q (fun K hK => ?_)); go_simp; (first | refine hK _ ?_ | (go_bits; refine hK _ ?_) | (go_bits; go_simp; refine hK _ ?_)); clear hK K))
            with_reducible refine wpD_b (fun K hK => ?_)
            go_simp
            refine hK _ _ ?_
            clear hK K
            with_reducible refine wpD_nil ?_
            obtain ⟨W2, hW2⟩ : ∃ W2, W2 = (wr.setCell ⟨g', v, none⟩ (.int .i64 (r1 + 1))).drew := ⟨_, rfl⟩
            rw [← hW2]
            have hnet3 : Net W2 base p n (roomM bs bs.length) (fun a b => if a = u ∧ b = v then r1 + 1 else F0 a b) vR vF uR uF := by
              rw [hW2]
              exact (hnet2.out.storeF hun hx1H.out (r1 + 1)).below (by exact bel_)
            have hbw3 : Below base w W2 := by
              rw [hW2]
              exact (hbw2.out.setCell (p := ⟨g', v, none⟩) hbg _).drew
            have hrow3 : W2.ownsRow wo.heap.size 3 1 (.slice (some ⟨gW, 0, none⟩) N cW) N ((intsI W).map (Value.int .i64)) := by
              rw [hW2]
              refine ownsRow_grown hrowH.out (fun b hb => ?_)
              have hb2 : some gW = some b := hb
              injection hb2 with hb3
              exact Below.heap_setCell _ _ _ _ (by have := hgne.out; simp; omega)
            have cx1 := (hrow3.cellAt t (by omega)).trans (by simp [intsI, hu2H.out] : _ = some (Value.int .i64 (u : Int)))
            have cx2 := (hrow3.cellAt (t + 1) (by have := hjt.out; omega)).trans (by simp [intsI, hv2H.out] : _ = some (Value.int .i64 (v : Int)))
            rw [← hjt.out] at cx2
            have lx := (hrow3.lt gW rfl).2
            have hnet3H := Lib.hid hnet3
            have hbw3H := Lib.hid hbw3
            have hrow3H := Lib.hid hrow3
            clear hW2 hnet3 hbw3 hrow3 cw1 cw2 lw c0 c1 c2 f2 l0 l1 l2 hw1
            obtain ⟨g5, cap5, g6, cap6, hvF5, c1, l1, l2, _, hbg6, hx5, hown5, hcols5⟩ := hnet3H.out.F.at hvn
            have c2 := hcols5 u hun
            have f2 := hown5.frozenAt u
            have c0 := hnet3H.out.flow
            rw [hvF5] at c0
            have l0 := hnet3H.out.lt
            rw [if_neg (fun c => huvH.out c.1.symm)] at c2
            obtain ⟨r2, hr2E⟩ : ∃ r, F0 v u = r := ⟨_, rfl⟩
            rw [hr2E] at c2 hbd2
            have hr2H := Lib.hid hr2E
            have hw2 : IntKind.i64.wrap (r2 - 1) = r2 - 1 := IntWalk.i64_in _ ⟨by omega, by omega⟩
            have hx5H := Lib.hid hx5
            have hg6ne := Lib.hid (show g6 ≠ gW from fun e => by
              have := hnet.out.F.lt (g := g6) (.inr ⟨v, _, hx5, rfl⟩)
              omega)
            clear hcols5 hx5 hvF5 hown5 hr2E
            go_wp2
            refine wp_region_ord [(0, .q), (1, .q), (2, .q), (3, .q), (4, .q), (5, .q), (6, .q), (7, .q), (8, .q), (9, .q), (10, .q), (11, .q), (12, .q), (13, .q), (14, .q), (15, .q), (16, .q), (17, .q), (18, .q), (19, .b)] (by kernel_rfl) (by kernel_rfl) ?_
            simp only [pick, List.filterMap_cons, List.filterMap_nil, List.getElem?_toArray, List.getElem?_cons_zero, List.getElem?_cons_succ, Option.map_some]
            repeat (first | ((with_reducible refine wpD_p (fun K hK => ?_)); go_simp; refine hK _ ?_; clear hK K) | ((with_reducible refine wpD_q (fun K hK => ?_)); go_simp; (first | refine hK _ ?_ | (go_bits; refine hK _ ?_) | (go_bits; go_simp; refine hK _ ?_)); clear hK K))
            with_reducible refine wpD_b (fun K hK => ?_)
            go_simp
            refine hK _ _ ?_
            clear hK K
            with_reducible refine wpD_nil ?_
            go_wp2
            go_roundg (D - (t + 1))
            case measure => omega
            case rel =>
              refine ⟨t + 1, j + 1, by omega, by go_num, Lib.hid (by rw [hjt.out]), by omega, Lib.hid ?_, Lib.hid ?_, Lib.hid ?_⟩
              · have h3 := hnet3H.out.storeF (j := u) hvn hx5H.out (r2 - 1)
                rw [hms.out, ← pushM_eq huvH.out, hr1H.out, hr2H.out]
                exact h3.below (by exact bel_)
              · exact (hbw3H.out.setCell (p := ⟨g6, u, none⟩) hbg6 _).drew
              · refine ownsRow_grown hrow3H.out (fun b hb => ?_)
                have hb2 : some gW = some b := hb
                injection hb2 with hb3
                exact Below.heap_setCell _ _ _ _ (by have := hg6ne.out; simp; omega)
          · obtain rfl : t = D := by omega
            have hjN : ¬ (j < N) := by have := hjt.out; omega
            have hnext : Hid (Net wr base p n (roomM bs bs.length) (flowM bs (iterF n bs x y (k + 1)) bs.length) vR vF uR uF) := by
              refine Lib.hid ?_
              have h1 := augK_flowM hbH.out hx hDH.out t (Nat.le_refl _)
              rw [← hWH.out] at h1
              simp only [iterF, hwH.out]
              rw [hWlH.out, Nat.add_sub_cancel, h1]
              exact hnet2.out
            go_wp2
            go_roundg (8 * m + 1 - (k + 1))
            case measure => omega
            case rel =>
              refine ⟨k + 1, by omega, by go_num, by omega, Lib.hid (fun j' hj' => ?_), hnext, hbw2⟩
              rcases Nat.lt_succ_iff_lt_or_eq.1 hj' with hj' | rfl
              · exact hns.out j' hj'
              · exact hnstop.out
end Go.Proofs.YtmhgjgclclnmaaaGreat
/- Walks: who leads to a point; the greatest flow; codes. -/

namespace Go.Proofs.YtmhgjgclclnmaaaGreat
open Go.RowKit Go.Shelf
attribute [local go_sem] BelowBy.cell BelowBy.cell_drew stillUpon givesUpon BelowBy.cell_drew2 BelowBy.cell_drew3

noncomputable def leadL (n : Nat) (E : Nat → Nat → Bool) (y m : Nat) : List Nat := (List.range m).filter fun u => (distTo n E y u).isSome
theorem leadL_yes {n : Nat} {E : Nat → Nat → Bool} {y m : Nat} (h : (distTo n E y m).isSome = true) : leadL n E y (m + 1) = leadL n E y m ++ [m] := by
  unfold leadL; rw [List.range_succ, List.filter_append]; simp [h]
theorem leadL_no {n : Nat} {E : Nat → Nat → Bool} {y m : Nat} (h : (distTo n E y m).isSome = false) : leadL n E y (m + 1) = leadL n E y m := by
  unfold leadL; rw [List.range_succ, List.filter_append]; simp [h]
theorem leadL_len (n : Nat) (E : Nat → Nat → Bool) (y m : Nat) : (leadL n E y m).length ≤ m := by
  have := List.length_filter_le (fun u => (distTo n E y u).isSome) (List.range m)
  simpa [leadL] using this
theorem wayTo_isSome (n : Nat) (E : Nat → Nat → Bool) (x y : Nat) : (wayTo n E x y).isSome = (distTo n E y x).isSome := by
  unfold wayTo
  cases distTo n E y x <;> rfl
def OwnI (w : World) (l : List Nat) (e : Ending) (w' : World) : Prop := ∃ v, e = .returned v ∧ w'.ownsRow w.heap.size 2 1 v l.length ((intsI l).map (Value.int .i64)) ∧ Below w.heap.size w w'
set_option maxRecDepth 100000 in
set_option maxHeartbeats 2000000 in
theorem leadingTo_any (base p n y : Nat) (R F : Nat → Nat → Int) (vR vF : Value) (uR uF : List Value) (w : World) (h : Net w base p n R F vR vF uR uF) (hy : y < n) (hn : n ≤ 100000) :
    Calls Tryz.prog 52 #[.pointer (some ⟨p, 0, none⟩), .int .i64 (y : Int)] w (OwnI w (leadL n (freeE R F) y n)) := by
  obtain ⟨i1, hi', hz0', hz1', hz2'⟩ := info_parts infoI
  have hN := Lib.hid h
  obtain ⟨A0, c0, hv⟩ := Own2.form h.R h.R.len
  have hr := h.room
  rw [hv] at hr
  have hl := h.lt
  clear h hv
  obtain ⟨E, hE⟩ : ∃ E, freeE R F = E := ⟨_, rfl⟩
  rw [hE]
  have hEH := Lib.hid hE
  clear hE
  have hqn := fun W A k c => run_neq_slice_nil_any (P := Tryz.prog) W 169 3 A k c 0 0 Tryz.underlying169
  go_enter Tryz.func52, Tryz.ntmps52
  go_wp2
  go_loopg [12, 5] n (fun gk i v wr => ∃ k : Nat, k + gk = n ∧ i = .int .i64 (k : Int) ∧ Hid (wr.ownsRow w.heap.size 2 1 v (leadL n E y k).length ((intsI (leadL n E y k)).map (Value.int .i64))) ∧ Hid (Below w.heap.size w wr))
  case atStart => exact ⟨0, by omega, rfl, Lib.hid (World.ownsRow_nil _ _ _ _), Lib.hid (bl_refl _)⟩
  case round =>
    obtain ⟨k, hk, rfl, hrow, hbw⟩ := hrel
    obtain ⟨A1, c1, rfl⟩ := ownsRow_form hrow.out
    have hsz := hbw.out.size
    by_cases hkn : k < n
    · cases hw : wayTo n E k y with
      | none =>
        have hd := Lib.hid (show (distTo n E y k).isSome = false by rw [← wayTo_isSome, hw]; rfl)
        have hwH := Lib.hid hw
        clear hw
        go_wp2_with (go_at_call 102; refine (way_any base p n k y R F vR vF uR uF _ (hN.out.below hbw.out) hkn hy hn).mono ?_; rintro e w2 ⟨hb2, he⟩; rw [hEH.out, hwH.out] at he; have he2 : e = .returned (.slice none 0 0) := he; subst he2; have hb2H := Lib.hid hb2; clear hb2 he)
        go_roundg (n - (k + 1))
        case measure => omega
        case rel => exact ⟨k + 1, by omega, by go_num, Lib.hid (by rw [leadL_no hd.out]; exact ownsRow_below hrow.out hb2H.out), Lib.hid (hbw.out.trans (hb2H.out.mono hsz))⟩
      | some W =>
        have hd := Lib.hid (show (distTo n E y k).isSome = true by rw [← wayTo_isSome, hw]; rfl)
        have hwH := Lib.hid hw
        have hll := leadL_len n E y k
        obtain ⟨m, hm⟩ : ∃ m, (leadL n E y k).length = m := ⟨_, rfl⟩
        rw [hm] at hrow hll ⊢
        have hmH := Lib.hid hm
        clear hw hm
        go_wp2_with (first
          | (go_at_call 102; refine (way_any base p n k y R F vR vF uR uF _ (hN.out.below hbw.out) hkn hy hn).mono ?_; rintro e w2 ⟨hb2, he⟩; rw [hEH.out, hwH.out] at he; obtain ⟨gW, cW, rfl, hrowW⟩ := he; have hb2H := Lib.hid hb2; have hs2 := hb2.size; have hrow2 := Lib.hid (ownsRow_below hrow.out hb2); clear hb2 hrowW)
          | (at_builtin; refine wpList_append_own _ rfl _ _ 33 rfl w.heap.size 2 i1 (.int .i64 0) 1 8 Tryz.underlying33 hi' hz0' hz1' hz2' rfl (by decide) _ m ((intsI (leadL n E y k)).map (Value.int .i64)) rfl (hrow2.out.alloc _) ⟨w2.heap.size, 0, none⟩ 1 1 [.int .i64 (k : Int)] rfl rfl (cell_one_new _ _ _) (fun x hx => by simp at hx; subst hx; rfl) (by unfold maxLen; omega) (by omega) (by simp; omega) ?_; intro u3 w3 hown3 hgrow3 _; have hown3H := Lib.hid hown3; have hgrow3H := Lib.hid hgrow3; clear hown3 hgrow3))
        go_roundg (n - (k + 1))
        case measure => omega
        case rel =>
          refine ⟨k + 1, by omega, by go_num, Lib.hid ?_, Lib.hid ?_⟩
          · rw [leadL_yes hd.out, List.length_append, hmH.out]
            have h3 := hown3H.out
            simpa [intsI] using h3
          · exact (hbw.out.trans (hb2H.out.mono hsz)).trans (below_app (by omega) (fun g e => (hrow2.out.lt g e).1) hgrow3H.out)
    · obtain rfl : k = n := by omega
      go_wp2
      go_ret
      exact ⟨_, rfl, hrow.out, hbw.out⟩
/-- the network with the greatest flow -/
def FlowingRes (w : World) (n : Nat) (bs : List Bd) (x y : Nat) (e : Ending) (w' : World) : Prop := ∃ p vR vF uR uF, e = .returned (.tuple #[.pointer (some ⟨p, 0, none⟩), .int .i64 (flowV n bs x y : Int)]) ∧
  Net w' w.heap.size p n (roomM bs bs.length) (flowM bs (iterF n bs x y (flowV n bs x y)) bs.length) vR vF uR uF ∧ Below w.heap.size w w'
theorem flowV_le {n : Nat} {bs : List Bd} (hb : BondsOk n bs) {x y : Nat} (hx : x < n) (hxy : x ≠ y) : flowV n bs x y ≤ 8 * bs.length := by
  obtain ⟨K, h1, h2⟩ := exists_least (exists_stop hb hx hxy)
  rw [flowV_eq h1 h2]
  have := iterF_left hb hx hxy (k := K) h2
  omega
set_option maxRecDepth 100000 in
set_option maxHeartbeats 1000000 in
theorem flowing_any (n x y : Nat) (B : Option Addr) (c : Nat) (bs : List Bd) (w : World) (hB : RdSl 3 RBd w B bs.length bs) (hb : BondsOk n bs) (hx : x < n) (hy : y < n) (hxy : x ≠ y) (hn : n ≤ 100000) (hm : bs.length ≤ 100000) :
    Calls Tryz.prog 46 #[.int .i64 (n : Int), .slice B bs.length c, .int .i64 (x : Int), .int .i64 (y : Int)] w (FlowingRes w n bs x y) := by
  have hBH := Lib.hid hB
  have hbH := Lib.hid hb
  have hle := Lib.hid (flowV_le hb hx hxy)
  obtain ⟨m, hmE⟩ : ∃ m, bs.length = m := ⟨_, rfl⟩
  have hmH := Lib.hid hmE
  rw [hmE] at hm ⊢
  clear hB hb hmE
  go_enter Tryz.func46, Tryz.ntmps46
  go_wp2_with (go_at_call 94; refine (networkOf_any n B m c bs _ (by rw [← hmH.out]; exact hBH.out) hbH.out hn (by omega)).mono ?_; rintro e w1 ⟨p, vR, vF, uR, uF, rfl, hnet, hb1⟩; have hnetH := Lib.hid hnet; have hb1H := Lib.hid hb1; have hs1 := hb1.size; clear hnet hb1)
  refine (send_any w.heap.size p n x y 1099511627776 bs vR vF uR uF _ (by rw [hmH.out]; exact hnetH.out) hbH.out hx hy hxy hn (by rw [hmH.out]; omega) (Nat.le_refl _) hs1).mono ?_
  rintro e w2 ⟨rfl, hnet2, hb2⟩
  have hmin : min (flowV n bs x y) 1099511627776 = flowV n bs x y := by have := hle.out; have := hmH.out; omega
  rw [hmin] at hnet2 ⊢
  have hnet2H := Lib.hid hnet2
  have hb2H := Lib.hid hb2
  clear hnet2 hb2 hmin
  go_wp2
  go_ret2
  exact ⟨p, vR, vF, uR, uF, rfl, hnet2H.out, hb1H.out.trans hb2H.out⟩
def fullCode (v : Bool) (q : Nat) (x y : Int) : Int := if cutCodeI v q x y ≠ 0 then cutCodeI v q x y else if 64 < q then 4 else 0
end Go.Proofs.YtmhgjgclclnmaaaGreat
