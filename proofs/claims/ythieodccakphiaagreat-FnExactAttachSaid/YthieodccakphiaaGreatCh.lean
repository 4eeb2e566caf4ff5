/- Rules for the walk: a channel with a buffer in one goroutine: a send into room, a receive of what lies there, how many lie there. -/
import Derived.WalkKit
import Derived.Conc.LoneCalls
import Derived.Conc.LoneSelectN
namespace Go.Proofs.YthieodccakphiaaGreat
open Go.RowKit Go.Conc
set_option linter.unusedSimpArgs false
set_option linter.unusedVariables false
section
variable {P : Program} {b : Frame} {a : Act} {k : List Item} {cs : List Frame} {w : World} {ops : Array Oper}
theorem wanted_none {o : Oper} (hg : o.guard = none) (a : Act) : Region.wanted o (yielded ops a.tmps) = true := by simp [Region.wanted, hg]
/-- an operation that yields a value -/
theorem step_op_value {i : Nat} {rest : List Nat} {o : Oper} {v : Value} {w' : World} (ho : ops[i]? = some o) (hg : o.guard = none) (hr : (execOp a.eval o).run P w = .ok (.value v) w') :
    step P (lone (b.at a (.inRegion ops (i :: rest) :: k)) cs w) = .next (lone (b.at (a.put o.dst v) (.inRegion ops rest :: k)) cs w') := by
  have hfin : (b.at a (.inRegion ops (i :: rest) :: k)).finish v = b.at (a.put o.dst v) (.inRegion ops rest :: k) := by
    rw [Frame.finish_at, ho]; rfl
  refine step_lone_go ?_
  rw [stepG_op ho (wanted_none hg a), ← hfin]
  simp [stepG.apply, hr]
/-- an operation that is a communication: whatever the frame -/
theorem stepG_comm' {i : Nat} {rest : List Nat} {o : Oper} {cases : Array CommCase} {blocking : Bool} {shape : CommShape} {w' : World} (ho : ops[i]? = some o) (hg : o.guard = none)
    (hr : (execOp a.eval o).run P w = .ok (.comm cases blocking shape) w') :
    ∃ es, stepG P true (G (b.at a (.inRegion ops (i :: rest) :: k)) cs) w = .comm (G (b.at a (.inRegion ops (i :: rest) :: k)) cs) cases blocking shape w' es := by
  rw [stepG_oper ho (wanted_none hg a)]
  by_cases hk : (b.kind == CallKind.early) = true
  · exact ⟨_, by simp [stepG.apply, hr, G, Frame.at, hk, GStep.after]; rfl⟩
  · have hk' : (b.kind == CallKind.early) = false := by simpa using hk
    exact ⟨_, by simp [stepG.apply, hr, G, Frame.at, hk', GStep.after]; rfl⟩
theorem step_op_send {i : Nat} {rest : List Nat} {o : Oper} {c cap s r : Nat} {buf : Array Value} {v z : Value} {tm : Bool} (ho : ops[i]? = some o) (hg : o.guard = none)
    (hr : (execOp a.eval o).run P w = .ok (.comm #[scase c v z] true .send) w) (hc : w.heap[c]? = some (.chan cap buf false s r tm)) (hroom : buf.size < cap) :
    step P (lone (b.at a (.inRegion ops (i :: rest) :: k)) cs w) = .next (lone (b.at (a.put o.dst undef) (.inRegion ops rest :: k)) cs (w.setChan c cap (buf.push v) false (s + 1) r tm)) := by
  obtain ⟨es, he⟩ := stepG_comm' (b := b) (k := k) (cs := cs) (rest := rest) ho hg hr
  have := step_lone_send_room he hc hroom
  rw [Frame.finish_at, ho] at this
  exact this
theorem step_op_recv {i : Nat} {rest : List Nat} {o : Oper} {c cap s r : Nat} {buf : Array Value} {z : Value} {tm closed : Bool} (ho : ops[i]? = some o) (hg : o.guard = none)
    (hr : (execOp a.eval o).run P w = .ok (.comm #[rcase c z] true (.recv false)) w) (hc : w.heap[c]? = some (.chan cap buf closed s r tm)) (hsome : 0 < buf.size) :
    step P (lone (b.at a (.inRegion ops (i :: rest) :: k)) cs w) = .next (lone (b.at (a.put o.dst (buf.getD 0 undef)) (.inRegion ops rest :: k)) cs (w.setChan c cap (buf.extract 1 buf.size) closed s (r + 1) tm)) := by
  obtain ⟨es, he⟩ := stepG_comm' (b := b) (k := k) (cs := cs) (rest := rest) ho hg hr
  have := step_lone_recv_buf false he hc hsome
  rw [Frame.finish_at, ho] at this
  exact this
theorem run_move {o : Oper} {x : Operand} (h : o.op = .move x) : (execOp a.eval o).run P w = .ok (.value (a.eval x)) w := by
  unfold execOp
  simp only [h]
  rfl
theorem run_assign {o : Oper} {x : Operand} (h : o.op = .assign x) : (execOp a.eval o).run P w = .ok (.value (a.eval x)) w := by
  unfold execOp
  simp only [h]
  rfl
theorem run_send {o : Oper} {x y : Operand} {c : Nat} (h : o.op = .send x y) (hx : a.eval x = .chan (some c)) : (execOp a.eval o).run P w = .ok (.comm #[scase c (a.eval y) (.tuple #[])] true .send) w := by
  unfold execOp
  simp only [h, hx, scase]
  rfl
theorem run_recv {o : Oper} {t e : TypeId} {x : Operand} {c : Nat} {z : Value} {dir : ChanDir} (h : o.op = .recv t x false) (hx : a.eval x = .chan (some c)) (ht : P.underlying t = some (.chan dir e)) (hz : ∀ W, (zeroValue e).run P W = .ok z W) :
    (execOp a.eval o).run P w = .ok (.comm #[rcase c z] true (.recv false)) w := by
  unfold execOp
  simp only [h, hx, rcase]
  simp [run_underlying ht, hz, Sem.run_bind]
theorem grown_setChan (w : World) (c cap : Nat) (buf : Array Value) (cl : Bool) (s r : Nat) (tm : Bool) : w.grownBy (w.setChan c cap buf cl s r tm) (some c) :=
  ⟨rfl, rfl, rfl, by simp [World.setChan], fun k hk hne => by
    simp only [World.setChan]
    exact Array.getElem?_setIfInBounds_ne (fun e => hne (by rw [e]))⟩
theorem lt_of_heap {w : World} {c : Nat} {o : Obj} (h : w.heap[c]? = some o) : c < w.heap.size := (Array.getElem?_eq_some_iff.1 h).1
/-- 'c <- x': two moves and the send -/
theorem wp_region_send {id c cap s r : Nat} {o0 o1 o2 : Oper} {x0 x1 x2 y2 : Operand} {buf : Array Value} {tm : Bool} {v : Value} {Q : Exit → Act → World → Prop}
    (g0 : o0.guard = none) (g1 : o1.guard = none) (g2 : o2.guard = none) (h0 : o0.op = .move x0) (h1 : o1.op = .move x1) (h2 : o2.op = .send x2 y2)
    (hx : (((a.put o0.dst (a.eval x0)).put o1.dst ((a.put o0.dst (a.eval x0)).eval x1))).eval x2 = .chan (some c)) (hv : (((a.put o0.dst (a.eval x0)).put o1.dst ((a.put o0.dst (a.eval x0)).eval x1))).eval y2 = v)
    (hc : w.heap[c]? = some (.chan cap buf false s r tm)) (hroom : buf.size < cap)
    (h : ∀ w', w'.heap[c]? = some (.chan cap (buf.push v) false (s + 1) r tm) → w.grownBy w' (some c) → ∀ K : Act → Prop, (∀ a', Q .normal a' w' → K a') →
      K ((((a.put o0.dst (a.eval x0)).put o1.dst ((a.put o0.dst (a.eval x0)).eval x1))).put o2.dst undef)) :
    (Code.region id #[o0, o1, o2] false).wp P Q a w := by
  intro b k cs
  have hk := h _ (heap_setChan w c cap (buf.push v) false (s + 1) r tm (lt_of_heap hc)) (grown_setChan _ _ _ _ _ _ _ _) _ (fun _ x => x)
  refine ⟨.normal, _, _, hk, ?_⟩
  refine Steps.head step_region ?_
  rw [show (List.range (#[o0, o1, o2] : Array Oper).size) = [0, 1, 2] from rfl]
  refine Steps.head (step_op_value (o := o0) rfl g0 (run_move h0)) ?_
  refine Steps.head (step_op_value (o := o1) rfl g1 (run_move h1)) ?_
  have hs := run_send (P := P) (w := w) h2 hx
  rw [hv] at hs
  refine Steps.head (step_op_send (o := o2) rfl g2 hs hc hroom) ?_
  exact Steps.head step_region_end (Steps.refl _ _)
/-- 'x := <-c' -/
theorem wp_region_recv {id c cap s r : Nat} {o0 o1 o2 : Oper} {x0 x1 x2 : Operand} {t e : TypeId} {dir : ChanDir} {z v : Value} {buf : Array Value} {tm closed : Bool} {Q : Exit → Act → World → Prop}
    (g0 : o0.guard = none) (g1 : o1.guard = none) (g2 : o2.guard = none) (h0 : o0.op = .move x0) (h1 : o1.op = .recv t x1 false) (h2 : o2.op = .assign x2)
    (ht : P.underlying t = some (.chan dir e)) (hz : ∀ W, (zeroValue e).run P W = .ok z W)
    (hx : (a.put o0.dst (a.eval x0)).eval x1 = .chan (some c)) (hc : w.heap[c]? = some (.chan cap buf closed s r tm)) (hv : buf[0]? = some v)
    (h : ∀ w', w'.heap[c]? = some (.chan cap (buf.extract 1 buf.size) closed s (r + 1) tm) → w.grownBy w' (some c) → ∀ K : Act → Prop, (∀ a', Q .normal a' w' → K a') →
      K ((((a.put o0.dst (a.eval x0)).put o1.dst v)).put o2.dst ((((a.put o0.dst (a.eval x0)).put o1.dst v)).eval x2))) :
    (Code.region id #[o0, o1, o2] false).wp P Q a w := by
  have hsome : 0 < buf.size := (Array.getElem?_eq_some_iff.1 hv).1
  have hget : buf.getD 0 undef = v := by simp [Array.getD_eq_getD_getElem?, hv]
  intro b k cs
  have hk := h _ (heap_setChan w c cap (buf.extract 1 buf.size) closed s (r + 1) tm (lt_of_heap hc)) (grown_setChan _ _ _ _ _ _ _ _) _ (fun _ x => x)
  refine ⟨.normal, _, _, hk, ?_⟩
  refine Steps.head step_region ?_
  rw [show (List.range (#[o0, o1, o2] : Array Oper).size) = [0, 1, 2] from rfl]
  refine Steps.head (step_op_value (o := o0) rfl g0 (run_move h0)) ?_
  have hr := step_op_recv (b := b) (k := k) (cs := cs) (rest := [2]) (i := 1) (ops := #[o0, o1, o2]) (o := o1) rfl g1 (run_recv h1 hx ht hz) hc hsome
  rw [hget] at hr
  refine Steps.head hr ?_
  refine Steps.head (step_op_value (o := o2) rfl g2 (run_assign h2)) ?_
  exact Steps.head step_region_end (Steps.refl _ _)
end
end Go.Proofs.YthieodccakphiaaGreat
