import Derived.Test.YtkppijcjmhkkkaaGAB
import Derived.Test.YtkppijcjmhkkkaaGAA
import Derived.Laws.AppendOwn
import Derived.Test.YtkppijcjmhkkkaaGAL
set_option linter.unusedSimpArgs false
set_option linter.unusedVariables false
/- Walks: steps, directions, the program's and the reference's. -/

namespace Go.Proofs.Ytkppijcjmhkkkaa
open Go.RowKit
attribute [local go_sem] BelowBy.cell BelowBy.cell_drew stillUpon givesUpon

theorem ValidPoint_v {x y : Int} {v : Bool} (w : World) (h : validPt x y = v) :
    Calls Try.prog 62 #[.agg #[.int .i64 x, .int .i64 y]] w fun e w' => e = .returned (.bool v) ∧ Below w.heap.size w w' := by
  rw [← h]; exact ValidPoint_any _ _ _
theorem l01Point_v {x y : Int} {v : Bool} (w : World) (h : validPt x y = v) :
    Calls Try.prog 45 #[.agg #[.int .i64 x, .int .i64 y]] w fun e w' => e = .returned (.bool v) ∧ Below w.heap.size w w' := by
  rw [← h]; exact l01Point_any _ _ _
theorem plus_i (a b c d : Int) (w : World) (h1 : -1000000 ≤ a ∧ a ≤ 1000000) (h2 : -1000000 ≤ b ∧ b ≤ 1000000) (h3 : -1000000 ≤ c ∧ c ≤ 1000000) (h4 : -1000000 ≤ d ∧ d ≤ 1000000) :
    Calls Try.prog 52 #[.agg #[.int .i64 a, .int .i64 b], .agg #[.int .i64 c, .int .i64 d]] w fun e w' => e = .returned (.agg #[.int .i64 (a + c), .int .i64 (b + d)]) ∧ Below w.heap.size w w' := by
  go_enter Try.func52, Try.ntmps52
  go_wp2
  refine bodyPost_ret (v := .agg #[.int .i64 (a + c), .int .i64 (b + d)]) (by simp only [results, Try.results52]; go_simp) rfl ?_
  exact ⟨rfl, by exact bel_⟩
theorem validPt_iff {x y : Int} : validPt x y = true ↔ (-60 ≤ x ∧ x ≤ 60) ∧ (-60 ≤ y ∧ y ≤ 60) := by
  simp only [validPt, Bool.and_eq_true, inB_true]
set_option maxRecDepth 100000 in
theorem step_i (x y d : Int) (w : World) (hd : 0 ≤ d ∧ d ≤ 3) (hx : -1000 ≤ x ∧ x ≤ 1000) (hy : -1000 ≤ y ∧ y ≤ 1000) :
    Calls Try.prog 34 #[.agg #[.int .i64 x, .int .i64 y], .int .i64 d] w fun e w' => e = .returned (.agg #[.int .i64 (stepX x d), .int .i64 (stepY y d)]) ∧ Below w.heap.size w w' := by
  have : d = 0 ∨ d = 1 ∨ d = 2 ∨ d = 3 := by omega
  have hi0 : ∀ W, (Instr.index 68 (.agg #[.int .i64 0, .int .i64 1, .int .i64 1, .int .i64 0, .int .i64 0, .int .i64 (-1), .int .i64 (-1), .int .i64 0]) (.int .i64 0)).run Try.prog W = .ok (.agg #[.int .i64 0, .int .i64 1]) W := fun W => by kernel_rfl
  have hi1 : ∀ W, (Instr.index 68 (.agg #[.int .i64 0, .int .i64 1, .int .i64 1, .int .i64 0, .int .i64 0, .int .i64 (-1), .int .i64 (-1), .int .i64 0]) (.int .i64 1)).run Try.prog W = .ok (.agg #[.int .i64 1, .int .i64 0]) W := fun W => by kernel_rfl
  have hi2 : ∀ W, (Instr.index 68 (.agg #[.int .i64 0, .int .i64 1, .int .i64 1, .int .i64 0, .int .i64 0, .int .i64 (-1), .int .i64 (-1), .int .i64 0]) (.int .i64 2)).run Try.prog W = .ok (.agg #[.int .i64 0, .int .i64 (-1)]) W := fun W => by kernel_rfl
  have hi3 : ∀ W, (Instr.index 68 (.agg #[.int .i64 0, .int .i64 1, .int .i64 1, .int .i64 0, .int .i64 0, .int .i64 (-1), .int .i64 (-1), .int .i64 0]) (.int .i64 3)).run Try.prog W = .ok (.agg #[.int .i64 (-1), .int .i64 0]) W := fun W => by kernel_rfl
  obtain ⟨hx1, hx2⟩ := hx
  obtain ⟨hy1, hy2⟩ := hy
  clear hd
  rcases this with rfl | rfl | rfl | rfl
  · show Calls Try.prog 34 #[.agg #[.int .i64 x, .int .i64 y], .int .i64 0] w fun e w' => e = .returned (.agg #[.int .i64 (x), .int .i64 (y + 1)]) ∧ Below w.heap.size w w'
    go_enter Try.func34, Try.ntmps34
    go_wp2_with (go_at_call 52; refine (plus_i _ _ _ _ _ ⟨by omega, by omega⟩ ⟨by omega, by omega⟩ ⟨by omega, by omega⟩ ⟨by omega, by omega⟩).mono ?_; rintro e w1 ⟨rfl, hb1⟩; obtain ⟨chb1, fhb1, shb1, thb1⟩ := bcell hb1)
    refine bodyPost_ret (v := .agg #[.int .i64 (x), .int .i64 (y + 1)]) (by simp only [results, Try.results34]; go_simp) rfl ?_
    exact ⟨rfl, by exact bel_⟩
  · show Calls Try.prog 34 #[.agg #[.int .i64 x, .int .i64 y], .int .i64 1] w fun e w' => e = .returned (.agg #[.int .i64 (x + 1), .int .i64 (y)]) ∧ Below w.heap.size w w'
    go_enter Try.func34, Try.ntmps34
    go_wp2_with (go_at_call 52; refine (plus_i _ _ _ _ _ ⟨by omega, by omega⟩ ⟨by omega, by omega⟩ ⟨by omega, by omega⟩ ⟨by omega, by omega⟩).mono ?_; rintro e w1 ⟨rfl, hb1⟩; obtain ⟨chb1, fhb1, shb1, thb1⟩ := bcell hb1)
    refine bodyPost_ret (v := .agg #[.int .i64 (x + 1), .int .i64 (y)]) (by simp only [results, Try.results34]; go_simp) rfl ?_
    exact ⟨rfl, by exact bel_⟩
  · show Calls Try.prog 34 #[.agg #[.int .i64 x, .int .i64 y], .int .i64 2] w fun e w' => e = .returned (.agg #[.int .i64 (x), .int .i64 (y - 1)]) ∧ Below w.heap.size w w'
    go_enter Try.func34, Try.ntmps34
    go_wp2_with (go_at_call 52; refine (plus_i _ _ _ _ _ ⟨by omega, by omega⟩ ⟨by omega, by omega⟩ ⟨by omega, by omega⟩ ⟨by omega, by omega⟩).mono ?_; rintro e w1 ⟨rfl, hb1⟩; obtain ⟨chb1, fhb1, shb1, thb1⟩ := bcell hb1)
    refine bodyPost_ret (v := .agg #[.int .i64 (x), .int .i64 (y + -1)]) (by simp only [results, Try.results34]; go_simp) rfl ?_
    exact ⟨rfl, by exact bel_⟩
  · show Calls Try.prog 34 #[.agg #[.int .i64 x, .int .i64 y], .int .i64 3] w fun e w' => e = .returned (.agg #[.int .i64 (x - 1), .int .i64 (y)]) ∧ Below w.heap.size w w'
    go_enter Try.func34, Try.ntmps34
    go_wp2_with (go_at_call 52; refine (plus_i _ _ _ _ _ ⟨by omega, by omega⟩ ⟨by omega, by omega⟩ ⟨by omega, by omega⟩ ⟨by omega, by omega⟩).mono ?_; rintro e w1 ⟨rfl, hb1⟩; obtain ⟨chb1, fhb1, shb1, thb1⟩ := bcell hb1)
    refine bodyPost_ret (v := .agg #[.int .i64 (x + -1), .int .i64 (y)]) (by simp only [results, Try.results34]; go_simp) rfl ?_
    exact ⟨rfl, by exact bel_⟩
/-- whether the step is one -/
def stepOk (x y d : Int) : Bool := validPt x y && (inB d 0 3 && validPt (stepX x d) (stepY y d))
theorem stepOk_spec {x y d : Int} (h : stepOk x y d = true) : validPt x y = true ∧ inB d 0 3 = true ∧ validPt (stepX x d) (stepY y d) = true := by
  simpa only [stepOk, Bool.and_eq_true] using h
theorem step_v {x y d X Y : Int} (w : World) (hd : inB d 0 3 = true) (hv : validPt x y = true) (hX : stepX x d = X) (hY : stepY y d = Y) :
    Calls Try.prog 34 #[.agg #[.int .i64 x, .int .i64 y], .int .i64 d] w fun e w' => e = .returned (.agg #[.int .i64 X, .int .i64 Y]) ∧ Below w.heap.size w w' := by
  obtain ⟨⟨h1, h2⟩, h3, h4⟩ := validPt_iff.1 hv
  rw [← hX, ← hY]
  exact step_i x y d w (inB_true.1 hd) ⟨by omega, by omega⟩ ⟨by omega, by omega⟩
theorem lstep_v {x y d X Y : Int} (w : World) (hd : inB d 0 3 = true) (hv : validPt x y = true) (hX : stepX x d = X) (hY : stepY y d = Y) :
    Calls Try.prog 43 #[.agg #[.int .i64 x, .int .i64 y], .int .i64 d] w fun e w' => e = .returned (.agg #[.int .i64 X, .int .i64 Y]) ∧ Below w.heap.size w w' := by
  obtain ⟨⟨h1, h2⟩, h3, h4⟩ := validPt_iff.1 hv
  rw [← hX, ← hY]
  exact l01Step_any x y d w (inB_true.1 hd) ⟨by omega, by omega⟩ ⟨by omega, by omega⟩
end Go.Proofs.Ytkppijcjmhkkkaa
/- A region that draws its order, when its calls may turn one block p besides what they lay: the reads beside them look at the other blocks alone. -/


namespace Go.Proofs.Ytkppijcjmhkkkaa
open Go.RowKit
/-- from w to w' block p alone may have turned -/
structure Kp (p : Nat) (w w' : World) : Prop where
  below : Below p w w'
  keep : ∀ i, i ≠ p → i < w.heap.size → w'.heap[i]? = w.heap[i]?
theorem Kp.refl (p : Nat) (w : World) : Kp p w w := ⟨Below.refl _ _, fun _ _ _ => rfl⟩
theorem Kp.drew {p : Nat} {w w' : World} (h : Kp p w w') : Kp p w w'.drew := ⟨h.below.drew, h.keep⟩
theorem Kp.set {p : Nat} {w w' : World} (h : Kp p w w') (j : Nat) (u : Value) : Kp p w (w'.setCell ⟨p, j, none⟩ u) :=
  ⟨h.below.setCell (p := ⟨p, j, none⟩) (Nat.le_refl _) u, fun i h1 h2 => (Below.heap_setCell _ _ _ _ (by simp; omega)).trans (h.keep i h1 h2)⟩
theorem Kp.trans {p : Nat} {a b c : World} (h : Kp p a b) (k : Kp p b c) : Kp p a c :=
  ⟨h.below.trans k.below, fun i h1 h2 => (k.keep i h1 (Nat.lt_of_lt_of_le h2 h.below.size)).trans (h.keep i h1 h2)⟩
theorem Kp.thenB {p : Nat} {w w' w'' : World} (h : Kp p w w') (hp : p < w.heap.size) (hb : Below w.heap.size w' w'') : Kp p w w'' :=
  ⟨h.below.trans (hb.mono (Nat.le_of_lt hp)), fun i h1 h2 => (hb.block i h2).trans (h.keep i h1 h2)⟩
theorem Kp.al {p : Nat} {w w' : World} (h : Kp p w w') (hp : p ≤ w'.heap.size) (o : Obj) : Kp p w (w'.alloc o) :=
  ⟨h.below.alloc hp o, fun i h1 h2 => (Below.heap_alloc _ _ _ (Nat.lt_of_lt_of_le h2 h.below.size)).trans (h.keep i h1 h2)⟩
theorem Kp.then {p : Nat} {w w' w'' : World} (h : Kp p w w') (hp : p < w.heap.size) (hb : Below w'.heap.size w' w'') : Kp p w w'' :=
  ⟨h.below.trans (hb.mono (Nat.le_trans (Nat.le_of_lt hp) h.below.size)), fun i h1 h2 => (hb.block i (Nat.lt_of_lt_of_le h2 h.below.size)).trans (h.keep i h1 h2)⟩
theorem kcell {p : Nat} {W w1 : World} (hb : Kp p W w1) : (∀ b o, b ≠ p → b < W.heap.size → w1.cell? ⟨b, o, none⟩ = W.cell? ⟨b, o, none⟩) ∧ (∀ b o, b ≠ p → b < W.heap.size → w1.frozen? ⟨b, o, none⟩ = W.frozen? ⟨b, o, none⟩) ∧
    (∀ b, b < W.heap.size → b < w1.heap.size) ∧ (∀ b, b < W.heap.size → b ≤ w1.heap.size) :=
  ⟨fun b o h1 h2 => World.cell?_of_block (a := ⟨b, o, none⟩) (hb.keep b h1 h2), fun b o h1 h2 => World.frozen?_of_block (a := ⟨b, o, none⟩) (hb.keep b h1 h2), fun _ h => Nat.lt_of_lt_of_le h hb.below.size, fun _ h => Nat.le_of_lt (Nat.lt_of_lt_of_le h hb.below.size)⟩
/-- a world that is w but for block p and what lies behind -/
structure KpBy (p : Nat) (w : World) where
  world : World
  h : Kp p w world
instance (p : Nat) (w : World) : Inhabited (KpBy p w) := ⟨⟨w, Kp.refl _ _⟩⟩
theorem KpBy.cell {p : Nat} {W : World} (q : KpBy p W) (b o : Nat) (h1 : b ≠ p) (h : b < W.heap.size) : q.world.cell? ⟨b, o, none⟩ = W.cell? ⟨b, o, none⟩ := World.cell?_of_block (a := ⟨b, o, none⟩) (q.h.keep b h1 h)
theorem KpBy.cell_drew {p : Nat} {W : World} (q : KpBy p W.drew) (b o : Nat) (h1 : b ≠ p) (h : b < W.heap.size) : q.world.cell? ⟨b, o, none⟩ = W.cell? ⟨b, o, none⟩ := World.cell?_of_block (a := ⟨b, o, none⟩) (q.h.keep b h1 h)
section
variable {P : Program} {ops : Array Oper} {p : Nat}
def wpK (P : Program) (ops : Array Oper) (p : Nat) (Q : Act → World → Prop) : List (Oper × Tag) → Act → World → Prop
  | [], a, w => Q a w
  | (o, .q) :: rest, a, w =>
    if Region.wanted o (yielded ops a.tmps) then ∃ v, (∀ q : KpBy p w, stillUpon q.world v ((execOp a.eval o).run P q.world)) ∧ wpK P ops p Q rest (a.put o.dst v) w
    else wpK P ops p Q rest (a.put o.dst undef) w
  | (o, .g) :: rest, a, w =>
    if Region.wanted o (yielded ops a.tmps) then givesUpon P (fun v w' => Kp p w w' ∧ wpK P ops p Q rest (a.put o.dst v) w') ((execOp a.eval o).run P w)
    else wpK P ops p Q rest (a.put o.dst undef) w
  | (o, .b) :: rest, a, w =>
    if Region.wanted o (yielded ops a.tmps) then givesUpon P (fun v w' => wpK P ops p Q rest (a.put o.dst v) w') ((execOp a.eval o).run P w)
    else wpK P ops p Q rest (a.put o.dst undef) w
  | (o, .p) :: rest, a, w =>
    if Region.wanted o (yielded ops a.tmps) then ∃ v, (∀ W : World, stillUpon W v ((execOp a.eval o).run P W)) ∧ wpK P ops p Q rest (a.put o.dst v) w
    else wpK P ops p Q rest (a.put o.dst undef) w

/-- One operation at a time, what follows behind a variable. -/
theorem wpK_q {Q : Act → World → Prop} {o : Oper} {rest : List (Oper × Tag)} {a : Act} {w : World}
    (h : ∀ K : Act → Prop, (∀ a, wpK P ops p Q rest a w → K a) → if Region.wanted o (yielded ops a.tmps) then ∃ v, (∀ q : KpBy p w, stillUpon q.world v ((execOp a.eval o).run P q.world)) ∧ K (a.put o.dst v) else K (a.put o.dst undef)) :
    wpK P ops p Q ((o, .q) :: rest) a w := h _ fun _ h => h
theorem wpK_g {Q : Act → World → Prop} {o : Oper} {rest : List (Oper × Tag)} {a : Act} {w : World}
    (h : ∀ K : Act → World → Prop, (∀ a w', wpK P ops p Q rest a w' → K a w') → if Region.wanted o (yielded ops a.tmps) then givesUpon P (fun v w' => Kp p w w' ∧ K (a.put o.dst v) w') ((execOp a.eval o).run P w) else K (a.put o.dst undef) w) :
    wpK P ops p Q ((o, .g) :: rest) a w := h _ fun _ _ h => h
theorem wpK_b {Q : Act → World → Prop} {o : Oper} {rest : List (Oper × Tag)} {a : Act} {w : World}
    (h : ∀ K : Act → World → Prop, (∀ a w', wpK P ops p Q rest a w' → K a w') → if Region.wanted o (yielded ops a.tmps) then givesUpon P (fun v w' => K (a.put o.dst v) w') ((execOp a.eval o).run P w) else K (a.put o.dst undef) w) :
    wpK P ops p Q ((o, .b) :: rest) a w := h _ fun _ _ h => h
theorem wpK_p {Q : Act → World → Prop} {o : Oper} {rest : List (Oper × Tag)} {a : Act} {w : World}
    (h : ∀ K : Act → Prop, (∀ a, wpK P ops p Q rest a w → K a) → if Region.wanted o (yielded ops a.tmps) then ∃ v, (∀ W : World, stillUpon W v ((execOp a.eval o).run P W)) ∧ K (a.put o.dst v) else K (a.put o.dst undef)) :
    wpK P ops p Q ((o, .p) :: rest) a w := h _ fun _ h => h
theorem wpK_nil {Q : Act → World → Prop} {a : Act} {w : World} (h : Q a w) : wpK P ops p Q [] a w := h

theorem exchK {Q : Act → World → Prop} {oj : Oper} {tj : Tag} {post : List (Oper × Tag)} (hsj : ∀ cs b, oj.op ≠ .select cs b) : ∀ (pre : List (Oper × Tag)) (a : Act) (w : World),
    (∀ x ∈ pre, (x.2 = .q ∨ x.2 = .p) ∧ x.1.apart ops oj = true ∧ ∀ cs b, x.1.op ≠ .select cs b) → (tj = .b → ∀ x ∈ pre, x.2 = .p) → wpK P ops p Q (pre ++ (oj, tj) :: post) a w →
    opStep P ops oj (fun v w' => (tj ≠ .b → Kp p w w') ∧ wpK P ops p Q (pre ++ post) (a.put oj.dst v) w') a w
  | [], a, w, _, _, h => by
    unfold opStep
    simp only [List.nil_append] at h ⊢
    cases tj <;> simp only [wpK] at h <;> split at h <;> rename_i hw <;> simp only [hw, if_true, if_false, Bool.false_eq_true]
    · obtain ⟨v, h1, h2⟩ := h
      exact givesUpon_of_still (h1 ⟨w, Kp.refl _ _⟩) ⟨fun _ => Kp.refl _ _, h2⟩
    · exact ⟨fun _ => Kp.refl _ _, h⟩
    · exact givesUpon_mono h fun v w' hh => ⟨fun _ => hh.1, hh.2⟩
    · exact ⟨fun _ => Kp.refl _ _, h⟩
    · exact givesUpon_mono h fun v w' hh => ⟨fun hn => absurd rfl hn, hh⟩
    · exact ⟨fun _ => Kp.refl _ _, h⟩
    · obtain ⟨v, h1, h2⟩ := h
      exact givesUpon_of_still (h1 w) ⟨fun _ => Kp.refl _ _, h2⟩
    · exact ⟨fun _ => Kp.refl _ _, h⟩
  | (op, t) :: pre, a, w, hp, hb, h => by
    obtain ⟨ht, hap, hsp⟩ := hp (op, t) (by simp)
    simp only at ht hap hsp
    obtain ⟨h1, h2, h3⟩ := Oper.apart_spec hap
    have hp' : ∀ x ∈ pre, (x.2 = .q ∨ x.2 = .p) ∧ x.1.apart ops oj = true ∧ ∀ cs b, x.1.op ≠ .select cs b := fun x hx => hp x (by simp [hx])
    have hb' : tj = .b → ∀ x ∈ pre, x.2 = .p := fun e x hx => hb e x (by simp [hx])
    have key : ∀ v, (∀ w', (tj ≠ .b → Kp p w w') → ∀ u, wpK P ops p Q (pre ++ post) ((a.put oj.dst u).put op.dst v) w' → wpK P ops p Q ((op, t) :: (pre ++ post)) (a.put oj.dst u) w') →
        wpK P ops p Q (pre ++ (oj, tj) :: post) (a.put op.dst v) w → opStep P ops oj (fun v w' => (tj ≠ .b → Kp p w w') ∧ wpK P ops p Q ((op, t) :: pre ++ post) (a.put oj.dst v) w') a w := by
      intro v hk hh
      have ih := exchK hsj pre (a.put op.dst v) w hp' hb' hh
      unfold opStep at ih ⊢
      rw [wanted_put oj a op.dst v h1, execOp_put oj hsj a op.dst v h1] at ih
      split at ih <;> rename_i hw <;> simp only [hw, if_true, if_false, Bool.false_eq_true]
      · refine givesUpon_mono ih fun u w' hh' => ⟨hh'.1, hk w' hh'.1 u ?_⟩
        rw [← Act.put_comm a v u h2]; exact hh'.2
      · refine ⟨ih.1, hk w (fun _ => Kp.refl _ _) undef ?_⟩
        rw [← Act.put_comm a v undef h2]; exact ih.2
    rcases ht with rfl | rfl
    · have hnb : tj ≠ .b := fun e => by have := hb e (op, .q) (by simp); cases this
      simp only [List.cons_append, wpK] at h
      split at h
      · rename_i hw
        obtain ⟨v, hv, hrest⟩ := h
        refine key v (fun w' hbw u hr => ?_) hrest
        have hbw := hbw hnb
        simp only [wpK]
        rw [wanted_put op a oj.dst u h3, if_pos hw, execOp_put op hsp a oj.dst u h3]
        exact ⟨v, fun q => hv ⟨q.world, hbw.trans q.h⟩, hr⟩
      · rename_i hw
        refine key undef (fun w' hbw u hr => ?_) h
        simp only [wpK]
        rw [wanted_put op a oj.dst u h3, if_neg hw]
        exact hr
    · simp only [List.cons_append, wpK] at h
      split at h
      · rename_i hw
        obtain ⟨v, hv, hrest⟩ := h
        refine key v (fun w' hbw u hr => ?_) hrest
        simp only [wpK]
        rw [wanted_put op a oj.dst u h3, if_pos hw, execOp_put op hsp a oj.dst u h3]
        exact ⟨v, hv, hr⟩
      · rename_i hw
        refine key undef (fun w' hbw u hr => ?_) h
        simp only [wpK]
        rw [wanted_put op a oj.dst u h3, if_neg hw]
        exact hr

theorem ordK_sound {Q : Exit → Act → World → Prop} (ord : List (Nat × Tag)) (hsel : Region.noSelect ops = true) (hcov : ∀ i, i < ops.size → ∃ x ∈ ord, x.1 = i)
    (hpw : ord.Pairwise (Rel2 ops)) (hsome : ∀ y ∈ ord, (ops[y.1]?).isSome = true) (htop : ∀ pre y post, ord = pre ++ y :: post → ∀ d ∈ depsOf ops y.1, ∃ x ∈ pre, x.1 = d) :
    ∀ (m : Nat) (listed : Array Bool) (a : Act) (w : World), (rem ord listed).length = m → Ideal ops listed → wpK P ops p (Q .normal) (pick ops (rem ord listed)) a w → wpAny P .any ops Q m listed a w := by
  have hlt : ∀ y ∈ ord, y.1 < ops.size := fun y hy => by
    have := hsome y hy
    rw [Option.isSome_iff_exists] at this
    obtain ⟨o, ho⟩ := this
    exact (Array.getElem?_eq_some_iff.1 ho).1
  intro m
  induction m with
  | zero =>
    intro listed a w hm hid h
    have hnil : rem ord listed = [] := List.eq_nil_of_length_eq_zero hm
    refine ⟨?_, by rw [hnil] at h; exact h⟩
    apply List.eq_nil_iff_forall_not_mem.2
    intro j hj
    obtain ⟨h1, h2, _⟩ := ready_deps hj
    obtain ⟨x, hx, rfl⟩ := hcov j h1
    have : x ∈ rem ord listed := List.mem_filter.2 ⟨hx, by simpa using h2⟩
    rw [hnil] at this
    cases this
  | succ m ih =>
    intro listed a w hm hid h
    refine ⟨fun h0 => ?_, fun j hj => ?_⟩
    · -- the first that has not come up is ready
      exfalso
      obtain ⟨y, rest, hrem⟩ : ∃ y rest, rem ord listed = y :: rest := by
        cases hr : rem ord listed with
        | nil => rw [hr] at hm; cases hm
        | cons y rest => exact ⟨y, rest, rfl⟩
      obtain ⟨pre, post, hord, hpre⟩ := List.filter_eq_cons_iff.1 hrem
      have hy : y ∈ ord := by rw [hord]; simp
      obtain ⟨o, ho⟩ := Option.isSome_iff_exists.1 (hsome y hy)
      have hun : listed.getD y.1 true = false := by
        have : y ∈ rem ord listed := by rw [hrem]; simp
        simpa using (List.mem_filter.1 this).2
      have : y.1 ∈ Region.ready .any ops listed := ready_of ho hun fun d hd => by
        obtain ⟨x, hx, rfl⟩ := htop pre y post hord d hd
        have h1 := hpre.1 x hx
        have hxl : x.1 < listed.size := by rw [hid.size]; exact hlt x (by rw [hord]; simp [hx])
        rw [← getD_tf hxl]
        simpa using h1
      rw [h0] at this
      cases this
    · obtain ⟨h1, h2, h3⟩ := ready_deps hj
      obtain ⟨x, hx, rfl⟩ := hcov j h1
      have hxr : x ∈ rem ord listed := List.mem_filter.2 ⟨hx, by simpa using h2⟩
      obtain ⟨pre, post, hsplit⟩ := List.append_of_mem hxr
      have hpwr : (rem ord listed).Pairwise (Rel2 ops) := hpw.filter _
      rw [hsplit, List.pairwise_append] at hpwr
      obtain ⟨_, hpc, hcross⟩ := hpwr
      obtain ⟨oj, hoj⟩ := Option.isSome_iff_exists.1 (hsome x hx)
      have hpre : ∀ y ∈ pre, Rel2 ops y x ∧ listed.getD y.1 false = false ∧ y ∈ ord := fun y hy => by
        have hyr : y ∈ rem ord listed := by rw [hsplit]; simp [hy]
        obtain ⟨hyo, hyu⟩ := List.mem_filter.1 hyr
        have hyl : y.1 < listed.size := by rw [hid.size]; exact hlt y hyo
        exact ⟨hcross y hy x (by simp), by rw [← getD_tf hyl]; simpa using hyu, hyo⟩
      have hno : ∀ y ∈ pre, ¬ Anc ops x.1 y.1 := fun y hy ha => by
        have := hid.anc ha h3
        rw [(hpre y hy).2.1] at this
        cases this
      have hstep := exchK (p := p) (P := P) (Q := Q .normal) (oj := oj) (tj := x.2) (post := pick ops post) (fun cs b => Region.noSelect_spec hsel x.1 oj cs b hoj) (pick ops pre) a w
        (by
          intro z hz
          obtain ⟨y, hy, hyz⟩ := List.mem_filterMap.1 hz
          obtain ⟨oy, hoy⟩ := Option.isSome_iff_exists.1 (hsome y (hpre y hy).2.2)
          rw [hoy] at hyz
          simp only [Option.map_some, Option.some.injEq] at hyz
          subst hyz
          refine ⟨?_, ?_, fun cs b => Region.noSelect_spec hsel y.1 oy cs b hoy⟩
          · cases hq : y.2 with
            | q => exact Or.inl rfl
            | p => exact Or.inr rfl
            | g => exact absurd ((hpre y hy).1.anc (by rw [hq]; rfl)) (hno y hy)
            | b => exact absurd ((hpre y hy).1.anc (by rw [hq]; rfl)) (hno y hy)
          · rcases (hpre y hy).1.apart with hd | hd
            · exact absurd (.one hd) (hno y hy)
            · unfold apartB at hd
              rw [hoy, hoj] at hd
              exact hd)
        (by
          intro hb z hz
          obtain ⟨y, hy, hyz⟩ := List.mem_filterMap.1 hz
          obtain ⟨oy, hoy⟩ := Option.isSome_iff_exists.1 (hsome y (hpre y hy).2.2)
          rw [hoy] at hyz
          simp only [Option.map_some, Option.some.injEq] at hyz
          subst hyz
          cases hq : y.2 with
          | p => rfl
          | q => exact absurd ((hpre y hy).1.anc (by rw [hq, hb]; rfl)) (hno y hy)
          | g => exact absurd ((hpre y hy).1.anc (by rw [hq]; rfl)) (hno y hy)
          | b => exact absurd ((hpre y hy).1.anc (by rw [hq]; rfl)) (hno y hy))
        (by
          have e : pick ops (rem ord listed) = pick ops pre ++ (oj, x.2) :: pick ops post := by
            rw [hsplit]; unfold pick; simp [List.filterMap_append, hoj]
          rw [← e]; exact h)
      have hrem' : rem ord (listed.setIfInBounds x.1 true) = pre ++ post := by
        have hx1 : x.1 < listed.size := by rw [hid.size]; exact h1
        have e1 : rem ord (listed.setIfInBounds x.1 true) = (rem ord listed).filter fun y => y.1 != x.1 := by
          unfold rem
          rw [List.filter_filter]
          apply List.filter_congr
          intro y hy
          by_cases hyx : x.1 = y.1
          · rw [← hyx]; simp [hx1]
          · have hne : (y.1 != x.1) = true := by simpa using fun h => hyx h.symm
            rw [getD_set_ne true hyx, hne]; simp
        rw [e1, hsplit, List.filter_append, List.filter_cons]
        have hp : pre.filter (fun y => y.1 != x.1) = pre := List.filter_eq_self.2 fun y hy => by simpa using (hpre y hy).1.ne
        have hq : post.filter (fun y => y.1 != x.1) = post := List.filter_eq_self.2 fun y hy => by
          have := (List.pairwise_cons.1 hpc).1 y hy
          simpa using fun e => this.ne e.symm
        rw [hp, hq]; simp
      refine wpOp_of_step hoj ?_
      have hlen : (pre ++ post).length = m := by
        have := hm
        rw [hsplit] at this
        simp at this ⊢
        omega
      have hid' : Ideal ops (listed.setIfInBounds x.1 true) := by
        refine ⟨by simp [hid.size], fun y hy d hd => ?_⟩
        by_cases hxy : x.1 = y
        · subst hxy; exact getD_set_true (h3 d hd)
        · rw [getD_set_ne false hxy] at hy
          exact getD_set_true (hid.closed y hy d hd)
      unfold opStep at hstep ⊢
      have e2 : ∀ v w', wpK P ops p (Q .normal) (pick ops pre ++ pick ops post) (a.put oj.dst v) w' → wpAny P .any ops Q m (listed.setIfInBounds x.1 true) (a.put oj.dst v) w' := fun v w' hh =>
        ih _ _ _ (by rw [hrem']; exact hlen) hid' (by rw [hrem']; unfold pick at hh ⊢; rw [List.filterMap_append]; exact hh)
      split at hstep <;> rename_i hw <;> simp only [hw, if_true, if_false, Bool.false_eq_true]
      · exact givesUpon_mono hstep fun v w' hh => e2 v w' hh.2
      · exact e2 _ _ hstep.2

/-- **The rule.** -/
theorem wp_region_ordK {id : Nat} {Q : Exit → Act → World → Prop} {a : Act} {w : World} {l : List Oper} (ord : List (Nat × Tag)) (hm : P.follows .mixedOrders = true) (hB : ordB l.toArray ord = true)
    (h : wpK P l.toArray p (Q .normal) (pick l.toArray ord) a w.drew) : (Code.region id l.toArray true).wp P Q a w := by
  simp only [ordB, Bool.and_eq_true, beq_iff_eq] at hB
  obtain ⟨⟨⟨hsel, hlen⟩, hcov⟩, hfrom⟩ := hB
  obtain ⟨hpw, _, hsome, htop⟩ := ordFrom_spec ord [] hfrom (fun _ h => by cases h)
  refine wp_region_any hm ?_
  have hall : rem ord (Array.replicate l.toArray.size false) = ord := List.filter_eq_self.2 fun y hy => by
    obtain ⟨o, ho⟩ := Option.isSome_iff_exists.1 (hsome y hy)
    have := (Array.getElem?_eq_some_iff.1 ho).1
    simp at this
    simp [this]
  have hs := ordK_sound (p := p) (P := P) (Q := Q) ord hsel (fun i hi => by
    have := List.all_eq_true.1 hcov i (List.mem_range.2 hi)
    obtain ⟨x, hx, hxi⟩ := List.any_eq_true.1 this
    exact ⟨x, hx, by simpa using hxi⟩) hpw hsome (fun pre y post he d hd => by
      rcases htop pre y post he d hd with ⟨x, hx, _⟩ | hx
      · cases hx
      · exact hx) l.toArray.size (Array.replicate l.toArray.size false) a w.drew (by rw [hall, hlen])
      ⟨by simp, fun y hy => by
        rcases Nat.lt_or_ge y l.toArray.size with h | h
        · simp at h; simp [h] at hy
        · simp at h; simp [h] at hy⟩ (by rw [hall]; exact h)
  exact hs
end
end Go.Proofs.Ytkppijcjmhkkkaa
/- Walks: a source of numbers drawn from bytes. -/




namespace Go.Proofs.Ytkppijcjmhkkkaa
open Go.RowKit
attribute [local go_sem] BelowBy.cell BelowBy.cell_drew stillUpon givesUpon

/-- a byte -/
def RBy (w : World) (b o : Nat) (e : Nat) : Prop := w.cell? ⟨b, o, none⟩ = some (.int .u8 (e : Int)) ∧ e < 256
theorem RBy.stable : Stable RBy := fun _ _ b o _ h hb hw => ⟨(hw.cell (p := ⟨b, o, none⟩) hb).trans h.1, h.2⟩
/-- a source in a block: the bytes, how many were asked for, a number -/
structure Src (w : World) (p : Nat) (C : Option Addr) (n c : Nat) (bs : List Nat) (a : Nat) (s : Nat) : Prop where
  lt : p < w.heap.size
  c0 : w.cell? ⟨p, 0, none⟩ = some (.slice C n c)
  c1 : w.cell? ⟨p, 1, none⟩ = some (.int .i64 (a : Int))
  c2 : w.cell? ⟨p, 2, none⟩ = some (.int .u64 (s : Int))
  f1 : w.frozen? ⟨p, 1, none⟩ = false
  f2 : w.frozen? ⟨p, 2, none⟩ = false
  rd : 0 < n → ∀ b o, C = some ⟨b, o, none⟩ → b < p
  bs : RdSl 1 RBy w C n bs
theorem Src.below {w w' : World} {p n c a s : Nat} {C : Option Addr} {bs : List Nat} (h : Src w p C n c bs a s) (hb : Below w.heap.size w w') : Src w' p C n c bs a s :=
  ⟨Nat.lt_of_lt_of_le h.lt hb.size, (hb.cell (p := ⟨p, 0, none⟩) h.lt).trans h.c0, (hb.cell (p := ⟨p, 1, none⟩) h.lt).trans h.c1, (hb.cell (p := ⟨p, 2, none⟩) h.lt).trans h.c2, (hb.frozen (p := ⟨p, 1, none⟩) h.lt).trans h.f1, (hb.frozen (p := ⟨p, 2, none⟩) h.lt).trans h.f2, h.rd, h.bs.below RBy.stable hb⟩
/-- a source's next number and its new state, in the world that two stores leave -/
theorem Src.stored {w : World} {p n c a s a' s' : Nat} {C : Option Addr} {bs : List Nat} (h : Src w p C n c bs a s) : Src ((w.setCell ⟨p, 1, none⟩ (.int .i64 (a' : Int))).setCell ⟨p, 2, none⟩ (.int .u64 (s' : Int))) p C n c bs a' s' := by
  obtain ⟨h1, h2, h3, h4, h5, h6, h7, h8⟩ := h
  have hb : Below p w ((w.setCell ⟨p, 1, none⟩ (.int .i64 (a' : Int))).setCell ⟨p, 2, none⟩ (.int .u64 (s' : Int))) := ((Below.refl p w).setCell (p := ⟨p, 1, none⟩) (Nat.le_refl _) _).setCell (p := ⟨p, 2, none⟩) (Nat.le_refl _) _
  refine ⟨by simpa using h1, by go_simp, by go_simp, by go_simp, by go_simp, by go_simp, h7, h8.len, fun hp => ?_⟩
  obtain ⟨b, o, hA, hbl, hc⟩ := h8.cells hp
  have hbp := h7 hp b o hA
  exact ⟨b, o, hA, Nat.lt_of_lt_of_le hbl hb.size, fun k hk => ⟨(hb.cell (p := ⟨b, _, none⟩) hbp).trans (hc k hk).1, (hc k hk).2⟩⟩
theorem Src.belowB {B : Nat} {w w' : World} {p n c a s : Nat} {C : Option Addr} {bs : List Nat} (h : Src w p C n c bs a s) (hp : p < B) (hb : Below B w w') : Src w' p C n c bs a s :=
  ⟨Nat.lt_of_lt_of_le h.lt hb.size, (hb.cell (p := ⟨p, 0, none⟩) hp).trans h.c0, (hb.cell (p := ⟨p, 1, none⟩) hp).trans h.c1, (hb.cell (p := ⟨p, 2, none⟩) hp).trans h.c2, (hb.frozen (p := ⟨p, 1, none⟩) hp).trans h.f1, (hb.frozen (p := ⟨p, 2, none⟩) hp).trans h.f2, h.rd, h.bs.len, fun hn => by
    obtain ⟨b, o, hA, hbl, hc⟩ := h.bs.cells hn
    have hbp := h.rd hn b o hA
    exact ⟨b, o, hA, Nat.lt_of_lt_of_le hbl hb.size, fun k hk => ⟨(hb.cell (p := ⟨b, _, none⟩) (Nat.lt_trans hbp hp)).trans (hc k hk).1, (hc k hk).2⟩⟩⟩
end Go.Proofs.Ytkppijcjmhkkkaa
