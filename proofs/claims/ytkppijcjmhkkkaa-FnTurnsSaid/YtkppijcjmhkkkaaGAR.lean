import Derived.Test.YtkppijcjmhkkkaaGAA
import Derived.Test.YtkppijcjmhkkkaaGAO
import Derived.Test.YtkppijcjmhkkkaaGAQ
set_option linter.unusedSimpArgs false
set_option linter.unusedVariables false
/- The rule for regions that draw their order, when one laying of a block may come up at any time among the others. -/

namespace Go.Proofs.Ytkppijcjmhkkkaa
open Go.RowKit
/-- The block may be laid between two steps: st is the block, if it has been laid. -/
def Mv (z : Obj) (st : Option Nat) (w : World) (st' : Option Nat) (W : World) : Prop := (st' = st ∧ W = w) ∨ (st = none ∧ st' = some w.heap.size ∧ W = w.alloc z)
theorem Mv.below {z : Obj} {st st' : Option Nat} {w W : World} (h : Mv z st w st' W) : Below w.heap.size w W := by
  rcases h with ⟨_, rfl⟩ | ⟨_, _, rfl⟩
  · exact Below.refl _ _
  · exact (Below.refl _ _).alloc (Nat.le_refl _) _
/-- what is known of the block -/
def FlAt (z : Obj) (lo : Nat) (st : Option Nat) (w : World) : Prop := lo ≤ w.heap.size ∧ ∀ b, st = some b → lo ≤ b ∧ w.heap[b]? = some z
theorem FlAt.none (z : Obj) (w : World) : FlAt z w.heap.size .none w := ⟨Nat.le_refl _, fun b h => by cases h⟩
theorem FlAt.mv {z : Obj} {lo : Nat} {st st' : Option Nat} {w W : World} (h : FlAt z lo st w) (hm : Mv z st w st' W) : FlAt z lo st' W := by
  rcases hm with ⟨rfl, rfl⟩ | ⟨rfl, rfl, rfl⟩
  · exact h
  · refine ⟨Nat.le_trans h.1 (by simp), fun b hb => ?_⟩
    injection hb with hb
    subst hb
    exact ⟨h.1, by show (w.heap.push z)[w.heap.size]? = some z; simp⟩
theorem FlAt.below {z : Obj} {lo : Nat} {st : Option Nat} {w W : World} (h : FlAt z lo st w) (hb : Below w.heap.size w W) : FlAt z lo st W :=
  ⟨Nat.le_trans h.1 hb.size, fun b e => ⟨(h.2 b e).1, (hb.block b ((Array.getElem?_eq_some_iff.1 (h.2 b e).2).1)).trans (h.2 b e).2⟩⟩
theorem FlAt.lt {z : Obj} {lo b : Nat} {w : World} (h : FlAt z lo (some b) w) : b < w.heap.size := (Array.getElem?_eq_some_iff.1 (h.2 b rfl).2).1
/-- the block is none of a step's own -/
def FlOut (lo hi : Nat) (st : Option Nat) : Prop := ∀ b, st = some b → b < lo ∨ hi ≤ b
theorem FlOut.of {z : Obj} {lo : Nat} {st : Option Nat} {w : World} (h : FlAt z lo st w) (hi : Nat) : FlOut w.heap.size hi st := fun b e => by subst e; exact .inl h.lt
theorem FlOut.mv {z : Obj} {lo hi : Nat} {st st' : Option Nat} {w W : World} (h : FlOut lo hi st) (hm : Mv z st w st' W) (hh : hi ≤ w.heap.size) : FlOut lo hi st' := by
  rcases hm with ⟨rfl, rfl⟩ | ⟨rfl, rfl, rfl⟩
  · exact h
  · intro b e; injection e with e; subst e; exact .inr hh
section
variable {P : Program} {ops : Array Oper}
def wpL (P : Program) (ops : Array Oper) (z : Obj) (F : Nat → Act → World → Prop) : List (Oper × Tag) → Option Nat → Act → World → Prop
  | [], st, a, w => ∀ b W, Mv z st w (some b) W → F b a W
  | (o, .q) :: rest, st, a, w =>
    if Region.wanted o (yielded ops a.tmps) then ∃ v, (∀ p : BelowBy w, stillUpon p.world v ((execOp a.eval o).run P p.world)) ∧ wpL P ops z F rest st (a.put o.dst v) w
    else wpL P ops z F rest st (a.put o.dst undef) w
  | (o, .p) :: rest, st, a, w =>
    if Region.wanted o (yielded ops a.tmps) then ∃ v, (∀ W : World, stillUpon W v ((execOp a.eval o).run P W)) ∧ wpL P ops z F rest st (a.put o.dst v) w
    else wpL P ops z F rest st (a.put o.dst undef) w
  | (o, .g) :: rest, st, a, w =>
    if Region.wanted o (yielded ops a.tmps) then ∀ st' W, Mv z st w st' W → givesUpon P (fun v w' => Below W.heap.size W w' ∧ wpL P ops z F rest st' (a.put o.dst v) w') ((execOp a.eval o).run P W)
    else wpL P ops z F rest st (a.put o.dst undef) w
  | (_, .b) :: _, _, _, _ => False
variable {z : Obj} {F : Nat → Act → World → Prop}
theorem wpL_q {o : Oper} {rest : List (Oper × Tag)} {st : Option Nat} {a : Act} {w : World}
    (h : ∀ K : Act → Prop, (∀ a, wpL P ops z F rest st a w → K a) → if Region.wanted o (yielded ops a.tmps) then ∃ v, (∀ p : BelowBy w, stillUpon p.world v ((execOp a.eval o).run P p.world)) ∧ K (a.put o.dst v) else K (a.put o.dst undef)) :
    wpL P ops z F ((o, .q) :: rest) st a w := h _ fun _ h => h
theorem wpL_p {o : Oper} {rest : List (Oper × Tag)} {st : Option Nat} {a : Act} {w : World}
    (h : ∀ K : Act → Prop, (∀ a, wpL P ops z F rest st a w → K a) → if Region.wanted o (yielded ops a.tmps) then ∃ v, (∀ W : World, stillUpon W v ((execOp a.eval o).run P W)) ∧ K (a.put o.dst v) else K (a.put o.dst undef)) :
    wpL P ops z F ((o, .p) :: rest) st a w := h _ fun _ h => h
theorem wpL_g {o : Oper} {rest : List (Oper × Tag)} {st : Option Nat} {a : Act} {w : World} (hgd : o.guard = none)
    (h : ∀ K : Option Nat → Act → World → Prop, (∀ st' a w', wpL P ops z F rest st' a w' → K st' a w') → ∀ st' W, Mv z st w st' W → givesUpon P (fun v w' => Grew W w' ∧ K st' (a.put o.dst v) w') ((execOp a.eval o).run P W)) :
    wpL P ops z F ((o, .g) :: rest) st a w := by
  have hw : Region.wanted o (yielded ops a.tmps) = true := by simp [Region.wanted, hgd]
  simp only [wpL, hw, if_true]
  exact h _ fun _ _ _ h => h
theorem wpL_nil {st : Option Nat} {a : Act} {w : World} (h : ∀ b W, Mv z st w (some b) W → F b a W) : wpL P ops z F [] st a w := h

theorem wpL_alloc : ∀ (l : List (Oper × Tag)) (a : Act) (w : World), wpL P ops z F l none a w → wpL P ops z F l (some w.heap.size) a (w.alloc z)
  | [], a, w, h => fun b W hm => h b W (by
      rcases hm with ⟨e, rfl⟩ | ⟨e, _, _⟩
      · exact .inr ⟨rfl, e, rfl⟩
      · cases e)
  | (o, .q) :: rest, a, w, h => by
    simp only [wpL] at h ⊢
    split at h <;> rename_i hw <;> simp only [hw, if_true, if_false, Bool.false_eq_true]
    · obtain ⟨v, h1, h2⟩ := h
      exact ⟨v, fun p => h1 ⟨p.world, ((Below.refl _ _).alloc (Nat.le_refl _) z).trans (p.h.mono (by simp))⟩, wpL_alloc rest _ _ h2⟩
    · exact wpL_alloc rest _ _ h
  | (o, .p) :: rest, a, w, h => by
    simp only [wpL] at h ⊢
    split at h <;> rename_i hw <;> simp only [hw, if_true, if_false, Bool.false_eq_true]
    · obtain ⟨v, h1, h2⟩ := h
      exact ⟨v, h1, wpL_alloc rest _ _ h2⟩
    · exact wpL_alloc rest _ _ h
  | (o, .g) :: rest, a, w, h => by
    simp only [wpL] at h ⊢
    split at h <;> rename_i hw <;> simp only [hw, if_true, if_false, Bool.false_eq_true]
    · intro st' W hm
      refine h st' W ?_
      rcases hm with ⟨e, rfl⟩ | ⟨e, _, _⟩
      · exact .inr ⟨rfl, e, rfl⟩
      · cases e
    · exact wpL_alloc rest _ _ h
  | (o, .b) :: rest, a, w, h => h

theorem exchL {oj : Oper} {tj : Tag} {post : List (Oper × Tag)} (hsj : ∀ cs b, oj.op ≠ .select cs b) (st : Option Nat) : ∀ (pre : List (Oper × Tag)) (a : Act) (w : World),
    (∀ x ∈ pre, (x.2 = .q ∨ x.2 = .p) ∧ x.1.apart ops oj = true ∧ ∀ cs b, x.1.op ≠ .select cs b) → wpL P ops z F (pre ++ (oj, tj) :: post) st a w →
    opStep P ops oj (fun v w' => Below w.heap.size w w' ∧ wpL P ops z F (pre ++ post) st (a.put oj.dst v) w') a w
  | [], a, w, _, h => by
    unfold opStep
    simp only [List.nil_append] at h ⊢
    cases tj <;> simp only [wpL] at h
    · split at h <;> rename_i hw <;> simp only [hw, if_true, if_false, Bool.false_eq_true]
      · obtain ⟨v, h1, h2⟩ := h
        exact givesUpon_of_still (h1 ⟨w, Below.refl _ _⟩) ⟨Below.refl _ _, h2⟩
      · exact ⟨Below.refl _ _, h⟩
    · split at h <;> rename_i hw <;> simp only [hw, if_true, if_false, Bool.false_eq_true]
      · exact h st w (.inl ⟨rfl, rfl⟩)
      · exact ⟨Below.refl _ _, h⟩
    · split at h <;> rename_i hw <;> simp only [hw, if_true, if_false, Bool.false_eq_true]
      · obtain ⟨v, h1, h2⟩ := h
        exact givesUpon_of_still (h1 w) ⟨Below.refl _ _, h2⟩
      · exact ⟨Below.refl _ _, h⟩
  | (op, t) :: pre, a, w, hp, h => by
    obtain ⟨ht, hap, hsp⟩ := hp (op, t) (by simp)
    simp only at ht hap hsp
    obtain ⟨h1, h2, h3⟩ := Oper.apart_spec hap
    have hp' : ∀ x ∈ pre, (x.2 = .q ∨ x.2 = .p) ∧ x.1.apart ops oj = true ∧ ∀ cs b, x.1.op ≠ .select cs b := fun x hx => hp x (by simp [hx])
    have key : ∀ v, (∀ w', Below w.heap.size w w' → ∀ u, wpL P ops z F (pre ++ post) st ((a.put oj.dst u).put op.dst v) w' → wpL P ops z F ((op, t) :: (pre ++ post)) st (a.put oj.dst u) w') →
        wpL P ops z F (pre ++ (oj, tj) :: post) st (a.put op.dst v) w → opStep P ops oj (fun v w' => Below w.heap.size w w' ∧ wpL P ops z F ((op, t) :: pre ++ post) st (a.put oj.dst v) w') a w := by
      intro v hk hh
      have ih := exchL hsj st pre (a.put op.dst v) w hp' hh
      unfold opStep at ih ⊢
      rw [wanted_put oj a op.dst v h1, execOp_put oj hsj a op.dst v h1] at ih
      split at ih <;> rename_i hw <;> simp only [hw, if_true, if_false, Bool.false_eq_true]
      · refine givesUpon_mono ih fun u w' hh' => ⟨hh'.1, hk w' hh'.1 u ?_⟩
        rw [← Act.put_comm a v u h2]; exact hh'.2
      · refine ⟨ih.1, hk w (Below.refl _ _) undef ?_⟩
        rw [← Act.put_comm a v undef h2]; exact ih.2
    rcases ht with rfl | rfl
    · simp only [List.cons_append, wpL] at h
      split at h
      · rename_i hw
        obtain ⟨v, hv, hrest⟩ := h
        refine key v (fun w' hbw u hr => ?_) hrest
        simp only [wpL]
        rw [wanted_put op a oj.dst u h3, if_pos hw, execOp_put op hsp a oj.dst u h3]
        exact ⟨v, fun p => hv ⟨p.world, hbw.trans (p.h.mono hbw.size)⟩, hr⟩
      · rename_i hw
        refine key undef (fun w' hbw u hr => ?_) h
        simp only [wpL]
        rw [wanted_put op a oj.dst u h3, if_neg hw]
        exact hr
    · simp only [List.cons_append, wpL] at h
      split at h
      · rename_i hw
        obtain ⟨v, hv, hrest⟩ := h
        refine key v (fun w' hbw u hr => ?_) hrest
        simp only [wpL]
        rw [wanted_put op a oj.dst u h3, if_pos hw, execOp_put op hsp a oj.dst u h3]
        exact ⟨v, hv, hr⟩
      · rename_i hw
        refine key undef (fun w' hbw u hr => ?_) h
        simp only [wpL]
        rw [wanted_put op a oj.dst u h3, if_neg hw]
        exact hr

def flPtr (b : Nat) : Value := .pointer (some ⟨b, 0, none⟩)
def realAct (fo : Oper) (st : Option Nat) (a : Act) : Act := match st with
  | none => a
  | some b => a.put fo.dst (flPtr b)

theorem wpL_toD {Q : Act → World → Prop} {fo : Oper} {pb : List (Oper × Tag)} {b : Nat} : ∀ (l : List (Oper × Tag)) (a : Act) (w : World), (∀ x ∈ l, x.2 = .p ∧ fo.apart ops x.1 = true ∧ ∀ cs b, x.1.op ≠ .select cs b) →
    wpL P ops z (fun b a w => wpD P ops Q pb (a.put fo.dst (flPtr b)) w) l (some b) a w → wpD P ops Q (l ++ pb) (a.put fo.dst (flPtr b)) w
  | [], a, w, _, h => h b w (.inl ⟨rfl, rfl⟩)
  | (o, t) :: rest, a, w, hp, h => by
    obtain ⟨ht, hap, hsp⟩ := hp (o, t) (by simp)
    simp only at ht hap hsp
    subst ht
    obtain ⟨p1, p2, p3⟩ := Oper.apart_spec hap
    have hp' : ∀ x ∈ rest, x.2 = .p ∧ fo.apart ops x.1 = true ∧ ∀ cs b, x.1.op ≠ .select cs b := fun x hx => hp x (by simp [hx])
    simp only [List.cons_append, wpD]
    simp only [wpL] at h
    rw [wanted_put o a fo.dst (flPtr b) p1, execOp_put o hsp a fo.dst (flPtr b) p1]
    split at h <;> rename_i hw <;> simp only [hw, if_true, if_false, Bool.false_eq_true]
    · obtain ⟨v, h1, h2⟩ := h
      refine ⟨v, h1, ?_⟩
      rw [Act.put_comm a (flPtr b) v p2]
      exact wpL_toD rest _ _ hp' h2
    · rw [Act.put_comm a (flPtr b) undef p2]
      exact wpL_toD rest _ _ hp' h

theorem rem_set {ord : List (Nat × Tag)} {listed : Array Bool} {i : Nat} (h : ∀ y ∈ ord, y.1 ≠ i) : rem ord (listed.setIfInBounds i true) = rem ord listed := by
  unfold rem
  apply List.filter_congr
  intro y hy
  rw [getD_set_ne true (fun e => h y hy e.symm)]

theorem fl_sound {Q : Exit → Act → World → Prop} (fi : Nat) (fo : Oper) (A B : List (Nat × Tag)) (hsel : Region.noSelect ops = true) (hcov : ∀ i, i < ops.size → ∃ x ∈ (fi, Tag.p) :: (A ++ B), x.1 = i)
    (hpw : ((fi, Tag.p) :: (A ++ B)).Pairwise (Rel2 ops)) (hsome : ∀ y ∈ (fi, Tag.p) :: (A ++ B), (ops[y.1]?).isSome = true) (htop : ∀ pre y post, (fi, Tag.p) :: (A ++ B) = pre ++ y :: post → ∀ d ∈ depsOf ops y.1, ∃ x ∈ pre, x.1 = d)
    (hfo : ops[fi]? = some fo) (hap : ∀ y ∈ A, apartB ops fi y.1 = true) (hA : ∀ y ∈ A, y.2 ≠ .b) (hanc : ∀ y ∈ B, Anc ops y.1 fi ∧ ∀ x ∈ A, x.2 ≠ .p → Anc ops y.1 x.1)
    (hrun : ∀ (a : Act) (w : World), Region.wanted fo (yielded ops a.tmps) = true ∧ (execOp a.eval fo).run P w = .ok (.value (flPtr w.heap.size)) (w.alloc z)) :
    ∀ (m : Nat) (listed : Array Bool) (st : Option Nat) (a : Act) (w : World), (rem A listed).length + (if listed.getD fi true then 0 else 1) = m → (∀ y ∈ B, listed.getD y.1 true = false) → Ideal ops listed → st.isSome = listed.getD fi true →
      wpL P ops z (fun b a w => wpD P ops (Q .normal) (pick ops B) (a.put fo.dst (flPtr b)) w) (pick ops (rem A listed)) st a w → wpAny P .any ops Q (B.length + m) listed (realAct fo st a) w := by
  have hlt : ∀ y ∈ (fi, Tag.p) :: (A ++ B), y.1 < ops.size := fun y hy => by
    have := hsome y hy
    rw [Option.isSome_iff_exists] at this
    obtain ⟨o, ho⟩ := this
    exact (Array.getElem?_eq_some_iff.1 ho).1
  obtain ⟨hpf, hpAB⟩ := List.pairwise_cons.1 hpw
  obtain ⟨hpA, hpB, hpX⟩ := List.pairwise_append.1 hpAB
  intro m
  have hdone : ∀ (m : Nat) (listed : Array Bool) (st : Option Nat) (a : Act) (w : World), (rem A listed).length + (if listed.getD fi true then 0 else 1) = m → (∀ y ∈ B, listed.getD y.1 true = false) → Ideal ops listed → st.isSome = listed.getD fi true →
      wpL P ops z (fun b a w => wpD P ops (Q .normal) (pick ops B) (a.put fo.dst (flPtr b)) w) (pick ops (rem A listed)) st a w → listed.getD fi true = true → (∀ y ∈ rem A listed, y.2 = .p) → wpAny P .any ops Q (B.length + m) listed (realAct fo st a) w := by
    intro m listed st a w hm hBl hid hst h hfl hallp
    rw [hfl] at hst hm
    obtain ⟨b, rfl⟩ := Option.isSome_iff_exists.1 hst
    have hD := wpL_toD (pick ops (rem A listed)) a w (by
      intro u hu
      obtain ⟨y, hy, hyz⟩ := List.mem_filterMap.1 hu
      have hyA := (List.mem_filter.1 hy).1
      obtain ⟨oy, hoy⟩ := Option.isSome_iff_exists.1 (hsome y (by simp [hyA]))
      rw [hoy] at hyz
      simp only [Option.map_some, Option.some.injEq] at hyz
      subst hyz
      refine ⟨hallp y hy, ?_, fun cs b => Region.noSelect_spec hsel y.1 oy cs b hoy⟩
      have := hap y hyA
      unfold apartB at this
      rw [hfo, hoy] at this
      exact this) h
    have hremB : rem ((fi, Tag.p) :: (A ++ B)) listed = rem A listed ++ B := by
      have e1 : rem ((fi, Tag.p) :: (A ++ B)) listed = rem A listed ++ rem B listed := by
        unfold rem
        rw [List.filter_cons, List.filter_append]
        simp [hfl]
      rw [e1]
      congr 1
      exact List.filter_eq_self.2 fun y hy => by rw [hBl y hy]; rfl
    exact ord_sound (P := P) (Q := Q) _ hsel hcov hpw hsome htop (B.length + m) listed _ w (by rw [hremB, List.length_append]; simp at hm; omega) hid (by
      rw [hremB]
      unfold pick at hD ⊢
      rw [List.filterMap_append]; exact hD)
  induction m with
  | zero =>
    intro listed st a w hm hBl hid hst h
    have hnil : rem A listed = [] := List.eq_nil_of_length_eq_zero (by omega)
    have hfl : listed.getD fi true = true := by
      cases hf : listed.getD fi true
      · rw [hf] at hm; simp at hm
      · rfl
    exact hdone 0 listed st a w hm hBl hid hst h hfl (fun y hy => by rw [hnil] at hy; cases hy)
  | succ m ih =>
    intro listed st a w hm hBl hid hst h
    by_cases hdn : listed.getD fi true = true ∧ ∀ y ∈ rem A listed, y.2 = .p
    · exact hdone (m + 1) listed st a w hm hBl hid hst h hdn.1 hdn.2
    refine ⟨fun h0 => ?_, fun j hj => ?_⟩
    · exfalso
      obtain ⟨y, rest, hrem⟩ : ∃ y rest, rem ((fi, Tag.p) :: (A ++ B)) listed = y :: rest := by
        cases hr : rem ((fi, Tag.p) :: (A ++ B)) listed with
        | nil =>
          exfalso
          have e : ∀ y ∈ (fi, Tag.p) :: (A ++ B), listed.getD y.1 true = true := fun y hy => by
            cases hv : listed.getD y.1 true
            · have : y ∈ rem ((fi, Tag.p) :: (A ++ B)) listed := List.mem_filter.2 ⟨hy, by rw [hv]; rfl⟩
              rw [hr] at this; cases this
            · rfl
          have e1 := e (fi, .p) (by simp)
          have e2 : rem A listed = [] := List.filter_eq_nil_iff.2 fun y hy => by rw [e y (by simp [hy])]; simp
          simp only at e1
          rw [e1, e2] at hm
          simp at hm
        | cons y rest => exact ⟨y, rest, rfl⟩
      obtain ⟨pre, post, hord, hpre⟩ := List.filter_eq_cons_iff.1 hrem
      have hy : y ∈ (fi, Tag.p) :: (A ++ B) := by rw [hord]; simp
      obtain ⟨o, ho⟩ := Option.isSome_iff_exists.1 (hsome y hy)
      have hun : listed.getD y.1 true = false := by
        have : y ∈ rem ((fi, Tag.p) :: (A ++ B)) listed := by rw [hrem]; simp
        simpa using (List.mem_filter.1 this).2
      have : y.1 ∈ Region.ready .any ops listed := ready_of ho hun fun d hd => by
        obtain ⟨x, hx, rfl⟩ := htop pre y post hord d hd
        have h1 := hpre.1 x hx
        have hxl : x.1 < listed.size := by rw [hid.size]; exact hlt x (by rw [hord]; simp [hx])
        rw [← getD_tf hxl]
        simpa using h1
      rw [h0] at this
      cases this
    · obtain ⟨h1, h2, h3⟩ := ready_deps hj
      have hset : ∀ i, (∀ d ∈ depsOf ops i, listed.getD d false = true) → Ideal ops (listed.setIfInBounds i true) := fun i h3 => by
        refine ⟨by simp [hid.size], fun y hy d hd => ?_⟩
        by_cases hxy : i = y
        · subst hxy; exact getD_set_true (h3 d hd)
        · rw [getD_set_ne false hxy] at hy
          exact getD_set_true (hid.closed y hy d hd)
      obtain ⟨x, hx, rfl⟩ := hcov j h1
      rcases List.mem_cons.1 hx with rfl | hx'
      · -- the block is laid
        have hn : st = none := by
          simp only at h2
          rw [h2] at hst
          cases st
          · rfl
          · cases hst
        subst hn
        refine wpOp_of_step hfo ?_
        unfold opStep
        obtain ⟨hw, hr⟩ := hrun (realAct fo none a) w
        rw [if_pos hw, hr]
        have hne : ∀ y ∈ A, y.1 ≠ fi := fun y hy e => (hpf y (by simp [hy])).ne e.symm
        have hneB : ∀ y ∈ B, fi ≠ y.1 := fun y hy e => (hpf y (by simp [hy])).ne e
        have hl : fi < listed.size := by rw [hid.size]; exact h1
        have := ih (listed.setIfInBounds fi true) (some w.heap.size) a (w.alloc z) (by
            rw [rem_set hne]
            simp only at h2
            rw [h2] at hm
            simp [hl]
            simpa using hm) (fun y hy => by rw [getD_set_ne true (hneB y hy)]; exact hBl y hy) (hset fi h3) (by simp [hl]) (by rw [rem_set hne]; exact wpL_alloc _ _ _ h)
        exact this
      · rcases List.mem_append.1 hx' with hxA | hxB
        · have hxr : x ∈ rem A listed := List.mem_filter.2 ⟨hxA, by simpa using h2⟩
          obtain ⟨pre, post, hsplit⟩ := List.append_of_mem hxr
          have hpwr : (rem A listed).Pairwise (Rel2 ops) := hpA.filter _
          rw [hsplit, List.pairwise_append] at hpwr
          obtain ⟨_, hpc, hcross⟩ := hpwr
          obtain ⟨oj, hoj⟩ := Option.isSome_iff_exists.1 (hsome x hx)
          have hpre : ∀ y ∈ pre, Rel2 ops y x ∧ listed.getD y.1 false = false ∧ y ∈ A := fun y hy => by
            have hyr : y ∈ rem A listed := by rw [hsplit]; simp [hy]
            obtain ⟨hyo, hyu⟩ := List.mem_filter.1 hyr
            have hyl : y.1 < listed.size := by rw [hid.size]; exact hlt y (by simp [hyo])
            exact ⟨hcross y hy x (by simp), by rw [← getD_tf hyl]; simpa using hyu, hyo⟩
          have hno : ∀ y ∈ pre, ¬ Anc ops x.1 y.1 := fun y hy ha => by
            have := hid.anc ha h3
            rw [(hpre y hy).2.1] at this
            cases this
          have hsj : ∀ cs b, oj.op ≠ .select cs b := fun cs b => Region.noSelect_spec hsel x.1 oj cs b hoj
          have hstep := exchL (P := P) (ops := ops) (z := z) (F := fun b a w => wpD P ops (Q .normal) (pick ops B) (a.put fo.dst (flPtr b)) w) (oj := oj) (tj := x.2) (post := pick ops post) hsj st (pick ops pre) a w
            (by
              intro u hu
              obtain ⟨y, hy, hyz⟩ := List.mem_filterMap.1 hu
              obtain ⟨oy, hoy⟩ := Option.isSome_iff_exists.1 (hsome y (by simp [(hpre y hy).2.2]))
              rw [hoy] at hyz
              simp only [Option.map_some, Option.some.injEq] at hyz
              subst hyz
              refine ⟨?_, ?_, fun cs b => Region.noSelect_spec hsel y.1 oy cs b hoy⟩
              · cases hq : y.2 with
                | q => exact Or.inl rfl
                | p => exact Or.inr rfl
                | g => exact absurd ((hpre y hy).1.anc (by rw [hq]; rfl)) (hno y hy)
                | b => exact absurd ((hpre y hy).1.anc (by rw [hq]; rfl)) (hno y hy)
              · rcases (hpre y hy).1.apart with hd | hd
                · exact absurd (.one hd) (hno y hy)
                · unfold apartB at hd
                  rw [hoy, hoj] at hd
                  exact hd)
            (by
              have e : pick ops (rem A listed) = pick ops pre ++ (oj, x.2) :: pick ops post := by
                rw [hsplit]; unfold pick; simp [List.filterMap_append, hoj]
              rw [← e]; exact h)
          have hfx : fi ≠ x.1 := fun e => (hpf x hx').ne e
          have hrem' : rem A (listed.setIfInBounds x.1 true) = pre ++ post := by
            have hx1 : x.1 < listed.size := by rw [hid.size]; exact h1
            have e1 : rem A (listed.setIfInBounds x.1 true) = (rem A listed).filter fun y => y.1 != x.1 := by
              unfold rem
              rw [List.filter_filter]
              apply List.filter_congr
              intro y hy
              by_cases hyx : x.1 = y.1
              · rw [← hyx]; simp [hx1]
              · have hne : (y.1 != x.1) = true := by simpa using fun h => hyx h.symm
                rw [getD_set_ne true hyx, hne]; simp
            rw [e1, hsplit, List.filter_append, List.filter_cons]
            have hp : pre.filter (fun y => y.1 != x.1) = pre := List.filter_eq_self.2 fun y hy => by simpa using (hpre y hy).1.ne
            have hq : post.filter (fun y => y.1 != x.1) = post := List.filter_eq_self.2 fun y hy => by
              have := (List.pairwise_cons.1 hpc).1 y hy
              simpa using fun e => this.ne e.symm
            rw [hp, hq]; simp
          have hlen : (pre ++ post).length + 1 = (rem A listed).length := by rw [hsplit]; simp; omega
          have e2 : ∀ v w', wpL P ops z (fun b a w => wpD P ops (Q .normal) (pick ops B) (a.put fo.dst (flPtr b)) w) (pick ops pre ++ pick ops post) st (a.put oj.dst v) w' →
              wpAny P .any ops Q (B.length + m) (listed.setIfInBounds x.1 true) (realAct fo st (a.put oj.dst v)) w' := fun v w' hh =>
            ih _ st _ _ (by rw [hrem', getD_set_ne true (fun e => hfx e.symm)]; omega) (fun y hy => by rw [getD_set_ne true (hpX x hxA y hy).ne]; exact hBl y hy) (hset x.1 h3) (by rw [getD_set_ne true (fun e => hfx e.symm)]; exact hst)
              (by rw [hrem']; unfold pick at hh ⊢; rw [List.filterMap_append]; exact hh)
          have hapx := hap x hxA
          unfold apartB at hapx
          rw [hfo, hoj] at hapx
          obtain ⟨p1, p2, p3⟩ := Oper.apart_spec hapx
          refine wpOp_of_step hoj ?_
          cases st with
          | none =>
            show opStep P ops oj (fun v w' => wpAny P .any ops Q (B.length + m) (listed.setIfInBounds x.1 true) (a.put oj.dst v) w') a w
            unfold opStep at hstep ⊢
            split at hstep <;> rename_i hw <;> simp only [hw, if_true, if_false, Bool.false_eq_true]
            · exact givesUpon_mono hstep fun v w' hh => e2 v w' hh.2
            · exact e2 _ _ hstep.2
          | some b =>
            show opStep P ops oj (fun v w' => wpAny P .any ops Q (B.length + m) (listed.setIfInBounds x.1 true) ((a.put fo.dst (flPtr b)).put oj.dst v) w') (a.put fo.dst (flPtr b)) w
            unfold opStep at hstep ⊢
            rw [wanted_put oj a fo.dst (flPtr b) p1, execOp_put oj hsj a fo.dst (flPtr b) p1]
            split at hstep <;> rename_i hw <;> simp only [hw, if_true, if_false, Bool.false_eq_true]
            · exact givesUpon_mono hstep fun v w' hh => by rw [Act.put_comm a (flPtr b) v p2]; exact e2 v w' hh.2
            · rw [Act.put_comm a (flPtr b) undef p2]; exact e2 _ _ hstep.2
        · exfalso
          obtain ⟨ha1, ha2⟩ := hanc x hxB
          have hfl := hid.anc ha1 h3
          have hf1 : listed.getD fi true = true := by
            rw [getD_tf (by rw [hid.size]; exact hlt (fi, .p) (by simp))]; exact hfl
          refine hdn ⟨hf1, fun y hy => ?_⟩
          obtain ⟨hyA, hyl⟩ := List.mem_filter.1 hy
          cases hq : y.2 with
          | p => rfl
          | _ =>
            have := hid.anc (ha2 y hyA (by rw [hq]; decide)) h3
            rw [getD_tf (by rw [hid.size]; exact hlt y (by simp [hyA])), this] at hyl
            cases hyl

def toQ (l : List (Nat × Tag)) (t : Tag) : List (Nat × Tag) := l.map fun x => (x.1, if x.2 = .p then .p else t)
def toB (l : List (Nat × Tag)) : List (Nat × Tag) := l.map fun x => (x.1, .b)
/-- **The rule.** -/
theorem wp_region_fl {id : Nat} {Q : Exit → Act → World → Prop} {a : Act} {w : World} {l : List Oper} (fi : Nat) (A B : List (Nat × Tag)) (fo : Oper) (z : Obj) (hm : P.follows .mixedOrders = true)
    (hB : ordB l.toArray ((fi, .p) :: (A ++ B)) = true) (hB2 : ordB l.toArray ((fi, .q) :: (toQ A .q ++ toB B)) = true) (hA : (A.all fun x => x.2 != .b && apartB l.toArray fi x.1) = true) (hfo : l.toArray[fi]? = some fo)
    (hrun : ∀ (a : Act) (w : World), Region.wanted fo (yielded l.toArray a.tmps) = true ∧ (execOp a.eval fo).run P w = .ok (.value (flPtr w.heap.size)) (w.alloc z))
    (h : wpL P l.toArray z (fun b a w => wpD P l.toArray (Q .normal) (pick l.toArray B) (a.put fo.dst (flPtr b)) w) (pick l.toArray A) none a w.drew) : (Code.region id l.toArray true).wp P Q a w := by
  have hanc : ∀ y ∈ B, Anc l.toArray y.1 fi ∧ ∀ x ∈ A, x.2 ≠ .p → Anc l.toArray y.1 x.1 := by
    simp only [ordB, Bool.and_eq_true, beq_iff_eq] at hB2
    obtain ⟨hpw, _, _, _⟩ := ordFrom_spec _ [] hB2.2 (fun _ h => by cases h)
    obtain ⟨hpf, hpAB⟩ := List.pairwise_cons.1 hpw
    obtain ⟨_, _, hpX⟩ := List.pairwise_append.1 hpAB
    intro y hy
    have hyB : (y.1, Tag.b) ∈ toB B := List.mem_map.2 ⟨y, hy, rfl⟩
    exact ⟨(hpf (y.1, .b) (by simp [hyB])).anc rfl, fun x hx hxp => (hpX (x.1, .q) (List.mem_map.2 ⟨x, hx, by rw [if_neg hxp]⟩) (y.1, .b) hyB).anc rfl⟩
  simp only [ordB, Bool.and_eq_true, beq_iff_eq] at hB
  obtain ⟨⟨⟨hsel, hlen⟩, hcov⟩, hfrom⟩ := hB
  obtain ⟨hpw, _, hsome, htop⟩ := ordFrom_spec _ [] hfrom (fun _ h => by cases h)
  refine wp_region_any hm ?_
  have hun : ∀ y ∈ (fi, Tag.p) :: (A ++ B), (Array.replicate l.toArray.size false).getD y.1 true = false := fun y hy => by
    obtain ⟨o, ho⟩ := Option.isSome_iff_exists.1 (hsome y hy)
    have := (Array.getElem?_eq_some_iff.1 ho).1
    simp at this
    simp [this]
  have hremA : rem A (Array.replicate l.toArray.size false) = A := List.filter_eq_self.2 fun y hy => by rw [hun y (by simp [hy])]; rfl
  have hf0 := hun (fi, .p) (by simp)
  simp only at hf0
  have hs := fl_sound (P := P) (Q := Q) (z := z) fi fo A B hsel (fun i hi => by
    have := List.all_eq_true.1 hcov i (List.mem_range.2 hi)
    obtain ⟨x, hx, hxi⟩ := List.any_eq_true.1 this
    exact ⟨x, hx, by simpa using hxi⟩) hpw hsome (fun pre y post he d hd => by
      rcases htop pre y post he d hd with ⟨x, hx, _⟩ | hx
      · cases hx
      · exact hx) hfo (fun y hy => by have := List.all_eq_true.1 hA y hy; simp only [Bool.and_eq_true] at this; exact this.2) (fun y hy => by have := List.all_eq_true.1 hA y hy; simp only [Bool.and_eq_true, bne_iff_ne] at this; exact this.1) hanc hrun
    (A.length + 1) (Array.replicate l.toArray.size false) none a w.drew (by rw [hremA, hf0]; simp) (fun y hy => hun y (by simp [hy]))
      ⟨by simp, fun y hy => by
        rcases Nat.lt_or_ge y l.toArray.size with h | h
        · simp at h; simp [h] at hy
        · simp at h; simp [h] at hy⟩ (by rw [hf0]; rfl) (by rw [hremA]; exact h)
  have hn : B.length + (A.length + 1) = l.toArray.size := by
    rw [← hlen]; simp; omega
  rw [hn] at hs
  exact hs
end
end Go.Proofs.Ytkppijcjmhkkkaa
/- A region that draws its order: as Ord and OrdFl, but the operations of p may look at memory that all steps of the region leave alone: they hold in every world that has J, and every step keeps J. So a read may come up behind a store to another block. -/

namespace Go.Proofs.Ytkppijcjmhkkkaa
open Go.RowKit
section
variable {P : Program} {ops : Array Oper} {J : World → Prop}
def wpDJ (P : Program) (ops : Array Oper) (J : World → Prop) (Q : Act → World → Prop) : List (Oper × Tag) → Act → World → Prop
  | [], a, w => Q a w
  | (o, .q) :: rest, a, w =>
    if Region.wanted o (yielded ops a.tmps) then ∃ v, (∀ p : BelowBy w, stillUpon p.world v ((execOp a.eval o).run P p.world)) ∧ wpDJ P ops J Q rest (a.put o.dst v) w
    else wpDJ P ops J Q rest (a.put o.dst undef) w
  | (o, .g) :: rest, a, w =>
    if Region.wanted o (yielded ops a.tmps) then givesUpon P (fun v w' => J w' ∧ Below w.heap.size w w' ∧ wpDJ P ops J Q rest (a.put o.dst v) w') ((execOp a.eval o).run P w)
    else wpDJ P ops J Q rest (a.put o.dst undef) w
  | (o, .b) :: rest, a, w =>
    if Region.wanted o (yielded ops a.tmps) then givesUpon P (fun v w' => J w' ∧ wpDJ P ops J Q rest (a.put o.dst v) w') ((execOp a.eval o).run P w)
    else wpDJ P ops J Q rest (a.put o.dst undef) w
  | (o, .p) :: rest, a, w =>
    if Region.wanted o (yielded ops a.tmps) then ∃ v, (∀ W : World, J W → stillUpon W v ((execOp a.eval o).run P W)) ∧ wpDJ P ops J Q rest (a.put o.dst v) w
    else wpDJ P ops J Q rest (a.put o.dst undef) w

/-- One operation at a time, what follows behind a variable. -/
theorem wpDJ_q {Q : Act → World → Prop} {o : Oper} {rest : List (Oper × Tag)} {a : Act} {w : World}
    (h : ∀ K : Act → Prop, (∀ a, wpDJ P ops J Q rest a w → K a) → if Region.wanted o (yielded ops a.tmps) then ∃ v, (∀ p : BelowBy w, stillUpon p.world v ((execOp a.eval o).run P p.world)) ∧ K (a.put o.dst v) else K (a.put o.dst undef)) :
    wpDJ P ops J Q ((o, .q) :: rest) a w := h _ fun _ h => h
theorem wpDJ_g {Q : Act → World → Prop} {o : Oper} {rest : List (Oper × Tag)} {a : Act} {w : World}
    (h : ∀ K : Act → World → Prop, (∀ a w', wpDJ P ops J Q rest a w' → K a w') → if Region.wanted o (yielded ops a.tmps) then givesUpon P (fun v w' => J w' ∧ Grew w w' ∧ K (a.put o.dst v) w') ((execOp a.eval o).run P w) else K (a.put o.dst undef) w) :
    wpDJ P ops J Q ((o, .g) :: rest) a w := h _ fun _ _ h => h
theorem wpDJ_b {Q : Act → World → Prop} {o : Oper} {rest : List (Oper × Tag)} {a : Act} {w : World}
    (h : ∀ K : Act → World → Prop, (∀ a w', wpDJ P ops J Q rest a w' → K a w') → if Region.wanted o (yielded ops a.tmps) then givesUpon P (fun v w' => J w' ∧ K (a.put o.dst v) w') ((execOp a.eval o).run P w) else K (a.put o.dst undef) w) :
    wpDJ P ops J Q ((o, .b) :: rest) a w := h _ fun _ _ h => h
theorem wpDJ_p {Q : Act → World → Prop} {o : Oper} {rest : List (Oper × Tag)} {a : Act} {w : World}
    (h : ∀ K : Act → Prop, (∀ a, wpDJ P ops J Q rest a w → K a) → if Region.wanted o (yielded ops a.tmps) then ∃ v, (∀ W : World, J W → stillUpon W v ((execOp a.eval o).run P W)) ∧ K (a.put o.dst v) else K (a.put o.dst undef)) :
    wpDJ P ops J Q ((o, .p) :: rest) a w := h _ fun _ h => h
theorem wpDJ_nil {Q : Act → World → Prop} {a : Act} {w : World} (h : Q a w) : wpDJ P ops J Q [] a w := h

theorem exchJ {Q : Act → World → Prop} {oj : Oper} {tj : Tag} {post : List (Oper × Tag)} (hsj : ∀ cs b, oj.op ≠ .select cs b) : ∀ (pre : List (Oper × Tag)) (a : Act) (w : World),
    (∀ x ∈ pre, (x.2 = .q ∨ x.2 = .p) ∧ x.1.apart ops oj = true ∧ ∀ cs b, x.1.op ≠ .select cs b) → (tj = .b → ∀ x ∈ pre, x.2 = .p) → J w → wpDJ P ops J Q (pre ++ (oj, tj) :: post) a w →
    opStep P ops oj (fun v w' => J w' ∧ (tj ≠ .b → Below w.heap.size w w') ∧ wpDJ P ops J Q (pre ++ post) (a.put oj.dst v) w') a w
  | [], a, w, _, _, hJ, h => by
    unfold opStep
    simp only [List.nil_append] at h ⊢
    cases tj <;> simp only [wpDJ] at h <;> split at h <;> rename_i hw <;> simp only [hw, if_true, if_false, Bool.false_eq_true]
    · obtain ⟨v, h1, h2⟩ := h
      exact givesUpon_of_still (h1 ⟨w, Below.refl _ _⟩) ⟨hJ, fun _ => Below.refl _ _, h2⟩
    · exact ⟨hJ, fun _ => Below.refl _ _, h⟩
    · exact givesUpon_mono h fun v w' hh => ⟨hh.1, fun _ => hh.2.1, hh.2.2⟩
    · exact ⟨hJ, fun _ => Below.refl _ _, h⟩
    · exact givesUpon_mono h fun v w' hh => ⟨hh.1, fun hn => absurd rfl hn, hh.2⟩
    · exact ⟨hJ, fun _ => Below.refl _ _, h⟩
    · obtain ⟨v, h1, h2⟩ := h
      exact givesUpon_of_still (h1 w hJ) ⟨hJ, fun _ => Below.refl _ _, h2⟩
    · exact ⟨hJ, fun _ => Below.refl _ _, h⟩
  | (op, t) :: pre, a, w, hp, hb, hJ, h => by
    obtain ⟨ht, hap, hsp⟩ := hp (op, t) (by simp)
    simp only at ht hap hsp
    obtain ⟨h1, h2, h3⟩ := Oper.apart_spec hap
    have hp' : ∀ x ∈ pre, (x.2 = .q ∨ x.2 = .p) ∧ x.1.apart ops oj = true ∧ ∀ cs b, x.1.op ≠ .select cs b := fun x hx => hp x (by simp [hx])
    have hb' : tj = .b → ∀ x ∈ pre, x.2 = .p := fun e x hx => hb e x (by simp [hx])
    have key : ∀ v, (∀ w', (tj ≠ .b → Below w.heap.size w w') → ∀ u, wpDJ P ops J Q (pre ++ post) ((a.put oj.dst u).put op.dst v) w' → wpDJ P ops J Q ((op, t) :: (pre ++ post)) (a.put oj.dst u) w') →
        wpDJ P ops J Q (pre ++ (oj, tj) :: post) (a.put op.dst v) w → opStep P ops oj (fun v w' => J w' ∧ (tj ≠ .b → Below w.heap.size w w') ∧ wpDJ P ops J Q ((op, t) :: pre ++ post) (a.put oj.dst v) w') a w := by
      intro v hk hh
      have ih := exchJ hsj pre (a.put op.dst v) w hp' hb' hJ hh
      unfold opStep at ih ⊢
      rw [wanted_put oj a op.dst v h1, execOp_put oj hsj a op.dst v h1] at ih
      split at ih <;> rename_i hw <;> simp only [hw, if_true, if_false, Bool.false_eq_true]
      · refine givesUpon_mono ih fun u w' hh' => ⟨hh'.1, hh'.2.1, hk w' hh'.2.1 u ?_⟩
        rw [← Act.put_comm a v u h2]; exact hh'.2.2
      · refine ⟨hJ, fun _ => Below.refl _ _, hk w (fun _ => Below.refl _ _) undef ?_⟩
        rw [← Act.put_comm a v undef h2]; exact ih.2.2
    rcases ht with rfl | rfl
    · have hnb : tj ≠ .b := fun e => by have := hb e (op, .q) (by simp); cases this
      simp only [List.cons_append, wpDJ] at h
      split at h
      · rename_i hw
        obtain ⟨v, hv, hrest⟩ := h
        refine key v (fun w' hbw u hr => ?_) hrest
        have hbw := hbw hnb
        simp only [wpDJ]
        rw [wanted_put op a oj.dst u h3, if_pos hw, execOp_put op hsp a oj.dst u h3]
        exact ⟨v, fun p => hv ⟨p.world, hbw.trans (p.h.mono hbw.size)⟩, hr⟩
      · rename_i hw
        refine key undef (fun w' hbw u hr => ?_) h
        simp only [wpDJ]
        rw [wanted_put op a oj.dst u h3, if_neg hw]
        exact hr
    · simp only [List.cons_append, wpDJ] at h
      split at h
      · rename_i hw
        obtain ⟨v, hv, hrest⟩ := h
        refine key v (fun w' hbw u hr => ?_) hrest
        simp only [wpDJ]
        rw [wanted_put op a oj.dst u h3, if_pos hw, execOp_put op hsp a oj.dst u h3]
        exact ⟨v, hv, hr⟩
      · rename_i hw
        refine key undef (fun w' hbw u hr => ?_) h
        simp only [wpDJ]
        rw [wanted_put op a oj.dst u h3, if_neg hw]
        exact hr

theorem ordJ_sound {Q : Exit → Act → World → Prop} (ord : List (Nat × Tag)) (hsel : Region.noSelect ops = true) (hcov : ∀ i, i < ops.size → ∃ x ∈ ord, x.1 = i)
    (hpw : ord.Pairwise (Rel2 ops)) (hsome : ∀ y ∈ ord, (ops[y.1]?).isSome = true) (htop : ∀ pre y post, ord = pre ++ y :: post → ∀ d ∈ depsOf ops y.1, ∃ x ∈ pre, x.1 = d) :
    ∀ (m : Nat) (listed : Array Bool) (a : Act) (w : World), (rem ord listed).length = m → Ideal ops listed → J w → wpDJ P ops J (Q .normal) (pick ops (rem ord listed)) a w → wpAny P .any ops Q m listed a w := by
  have hlt : ∀ y ∈ ord, y.1 < ops.size := fun y hy => by
    have := hsome y hy
    rw [Option.isSome_iff_exists] at this
    obtain ⟨o, ho⟩ := this
    exact (Array.getElem?_eq_some_iff.1 ho).1
  intro m
  induction m with
  | zero =>
    intro listed a w hm hid hJ h
    have hnil : rem ord listed = [] := List.eq_nil_of_length_eq_zero hm
    refine ⟨?_, by rw [hnil] at h; exact h⟩
    apply List.eq_nil_iff_forall_not_mem.2
    intro j hj
    obtain ⟨h1, h2, _⟩ := ready_deps hj
    obtain ⟨x, hx, rfl⟩ := hcov j h1
    have : x ∈ rem ord listed := List.mem_filter.2 ⟨hx, by simpa using h2⟩
    rw [hnil] at this
    cases this
  | succ m ih =>
    intro listed a w hm hid hJ h
    refine ⟨fun h0 => ?_, fun j hj => ?_⟩
    · -- the first that has not come up is ready
      exfalso
      obtain ⟨y, rest, hrem⟩ : ∃ y rest, rem ord listed = y :: rest := by
        cases hr : rem ord listed with
        | nil => rw [hr] at hm; cases hm
        | cons y rest => exact ⟨y, rest, rfl⟩
      obtain ⟨pre, post, hord, hpre⟩ := List.filter_eq_cons_iff.1 hrem
      have hy : y ∈ ord := by rw [hord]; simp
      obtain ⟨o, ho⟩ := Option.isSome_iff_exists.1 (hsome y hy)
      have hun : listed.getD y.1 true = false := by
        have : y ∈ rem ord listed := by rw [hrem]; simp
        simpa using (List.mem_filter.1 this).2
      have : y.1 ∈ Region.ready .any ops listed := ready_of ho hun fun d hd => by
        obtain ⟨x, hx, rfl⟩ := htop pre y post hord d hd
        have h1 := hpre.1 x hx
        have hxl : x.1 < listed.size := by rw [hid.size]; exact hlt x (by rw [hord]; simp [hx])
        rw [← getD_tf hxl]
        simpa using h1
      rw [h0] at this
      cases this
    · obtain ⟨h1, h2, h3⟩ := ready_deps hj
      obtain ⟨x, hx, rfl⟩ := hcov j h1
      have hxr : x ∈ rem ord listed := List.mem_filter.2 ⟨hx, by simpa using h2⟩
      obtain ⟨pre, post, hsplit⟩ := List.append_of_mem hxr
      have hpwr : (rem ord listed).Pairwise (Rel2 ops) := hpw.filter _
      rw [hsplit, List.pairwise_append] at hpwr
      obtain ⟨_, hpc, hcross⟩ := hpwr
      obtain ⟨oj, hoj⟩ := Option.isSome_iff_exists.1 (hsome x hx)
      have hpre : ∀ y ∈ pre, Rel2 ops y x ∧ listed.getD y.1 false = false ∧ y ∈ ord := fun y hy => by
        have hyr : y ∈ rem ord listed := by rw [hsplit]; simp [hy]
        obtain ⟨hyo, hyu⟩ := List.mem_filter.1 hyr
        have hyl : y.1 < listed.size := by rw [hid.size]; exact hlt y hyo
        exact ⟨hcross y hy x (by simp), by rw [← getD_tf hyl]; simpa using hyu, hyo⟩
      have hno : ∀ y ∈ pre, ¬ Anc ops x.1 y.1 := fun y hy ha => by
        have := hid.anc ha h3
        rw [(hpre y hy).2.1] at this
        cases this
      have hstep := exchJ (P := P) (J := J) (Q := Q .normal) (oj := oj) (tj := x.2) (post := pick ops post) (fun cs b => Region.noSelect_spec hsel x.1 oj cs b hoj) (pick ops pre) a w
        (by
          intro z hz
          obtain ⟨y, hy, hyz⟩ := List.mem_filterMap.1 hz
          obtain ⟨oy, hoy⟩ := Option.isSome_iff_exists.1 (hsome y (hpre y hy).2.2)
          rw [hoy] at hyz
          simp only [Option.map_some, Option.some.injEq] at hyz
          subst hyz
          refine ⟨?_, ?_, fun cs b => Region.noSelect_spec hsel y.1 oy cs b hoy⟩
          · cases hq : y.2 with
            | q => exact Or.inl rfl
            | p => exact Or.inr rfl
            | g => exact absurd ((hpre y hy).1.anc (by rw [hq]; rfl)) (hno y hy)
            | b => exact absurd ((hpre y hy).1.anc (by rw [hq]; rfl)) (hno y hy)
          · rcases (hpre y hy).1.apart with hd | hd
            · exact absurd (.one hd) (hno y hy)
            · unfold apartB at hd
              rw [hoy, hoj] at hd
              exact hd)
        (by
          intro hb z hz
          obtain ⟨y, hy, hyz⟩ := List.mem_filterMap.1 hz
          obtain ⟨oy, hoy⟩ := Option.isSome_iff_exists.1 (hsome y (hpre y hy).2.2)
          rw [hoy] at hyz
          simp only [Option.map_some, Option.some.injEq] at hyz
          subst hyz
          cases hq : y.2 with
          | p => rfl
          | q => exact absurd ((hpre y hy).1.anc (by rw [hq, hb]; rfl)) (hno y hy)
          | g => exact absurd ((hpre y hy).1.anc (by rw [hq]; rfl)) (hno y hy)
          | b => exact absurd ((hpre y hy).1.anc (by rw [hq]; rfl)) (hno y hy))
        hJ
        (by
          have e : pick ops (rem ord listed) = pick ops pre ++ (oj, x.2) :: pick ops post := by
            rw [hsplit]; unfold pick; simp [List.filterMap_append, hoj]
          rw [← e]; exact h)
      have hrem' : rem ord (listed.setIfInBounds x.1 true) = pre ++ post := by
        have hx1 : x.1 < listed.size := by rw [hid.size]; exact h1
        have e1 : rem ord (listed.setIfInBounds x.1 true) = (rem ord listed).filter fun y => y.1 != x.1 := by
          unfold rem
          rw [List.filter_filter]
          apply List.filter_congr
          intro y hy
          by_cases hyx : x.1 = y.1
          · rw [← hyx]; simp [hx1]
          · have hne : (y.1 != x.1) = true := by simpa using fun h => hyx h.symm
            rw [getD_set_ne true hyx, hne]; simp
        rw [e1, hsplit, List.filter_append, List.filter_cons]
        have hp : pre.filter (fun y => y.1 != x.1) = pre := List.filter_eq_self.2 fun y hy => by simpa using (hpre y hy).1.ne
        have hq : post.filter (fun y => y.1 != x.1) = post := List.filter_eq_self.2 fun y hy => by
          have := (List.pairwise_cons.1 hpc).1 y hy
          simpa using fun e => this.ne e.symm
        rw [hp, hq]; simp
      refine wpOp_of_step hoj ?_
      have hlen : (pre ++ post).length = m := by
        have := hm
        rw [hsplit] at this
        simp at this ⊢
        omega
      have hid' : Ideal ops (listed.setIfInBounds x.1 true) := by
        refine ⟨by simp [hid.size], fun y hy d hd => ?_⟩
        by_cases hxy : x.1 = y
        · subst hxy; exact getD_set_true (h3 d hd)
        · rw [getD_set_ne false hxy] at hy
          exact getD_set_true (hid.closed y hy d hd)
      unfold opStep at hstep ⊢
      have e2 : ∀ v w', J w' → wpDJ P ops J (Q .normal) (pick ops pre ++ pick ops post) (a.put oj.dst v) w' → wpAny P .any ops Q m (listed.setIfInBounds x.1 true) (a.put oj.dst v) w' := fun v w' hJ' hh =>
        ih _ _ _ (by rw [hrem']; exact hlen) hid' hJ' (by rw [hrem']; unfold pick at hh ⊢; rw [List.filterMap_append]; exact hh)
      split at hstep <;> rename_i hw <;> simp only [hw, if_true, if_false, Bool.false_eq_true]
      · exact givesUpon_mono hstep fun v w' hh => e2 v w' hh.1 hh.2.2
      · exact e2 _ _ hstep.1 hstep.2.2

/-- **The rule.** -/
theorem wp_region_ordJ {id : Nat} {Q : Exit → Act → World → Prop} {a : Act} {w : World} {l : List Oper} (ord : List (Nat × Tag)) (hm : P.follows .mixedOrders = true) (hB : ordB l.toArray ord = true) (J : World → Prop) (hJ : J w.drew)
    (h : wpDJ P l.toArray J (Q .normal) (pick l.toArray ord) a w.drew) : (Code.region id l.toArray true).wp P Q a w := by
  simp only [ordB, Bool.and_eq_true, beq_iff_eq] at hB
  obtain ⟨⟨⟨hsel, hlen⟩, hcov⟩, hfrom⟩ := hB
  obtain ⟨hpw, _, hsome, htop⟩ := ordFrom_spec ord [] hfrom (fun _ h => by cases h)
  refine wp_region_any hm ?_
  have hall : rem ord (Array.replicate l.toArray.size false) = ord := List.filter_eq_self.2 fun y hy => by
    obtain ⟨o, ho⟩ := Option.isSome_iff_exists.1 (hsome y hy)
    have := (Array.getElem?_eq_some_iff.1 ho).1
    simp at this
    simp [this]
  have hs := ordJ_sound (P := P) (J := J) (Q := Q) ord hsel (fun i hi => by
    have := List.all_eq_true.1 hcov i (List.mem_range.2 hi)
    obtain ⟨x, hx, hxi⟩ := List.any_eq_true.1 this
    exact ⟨x, hx, by simpa using hxi⟩) hpw hsome (fun pre y post he d hd => by
      rcases htop pre y post he d hd with ⟨x, hx, _⟩ | hx
      · cases hx
      · exact hx) l.toArray.size (Array.replicate l.toArray.size false) a w.drew (by rw [hall, hlen])
      ⟨by simp, fun y hy => by
        rcases Nat.lt_or_ge y l.toArray.size with h | h
        · simp at h; simp [h] at hy
        · simp at h; simp [h] at hy⟩ hJ (by rw [hall]; exact h)
  exact hs
end
section
variable {P : Program} {ops : Array Oper} {J : World → Prop}
def wpLJ (P : Program) (ops : Array Oper) (J : World → Prop) (z : Obj) (F : Nat → Act → World → Prop) : List (Oper × Tag) → Option Nat → Act → World → Prop
  | [], st, a, w => ∀ b W, Mv z st w (some b) W → F b a W
  | (o, .q) :: rest, st, a, w =>
    if Region.wanted o (yielded ops a.tmps) then ∃ v, (∀ p : BelowBy w, stillUpon p.world v ((execOp a.eval o).run P p.world)) ∧ wpLJ P ops J z F rest st (a.put o.dst v) w
    else wpLJ P ops J z F rest st (a.put o.dst undef) w
  | (o, .p) :: rest, st, a, w =>
    if Region.wanted o (yielded ops a.tmps) then ∃ v, (∀ W : World, J W → stillUpon W v ((execOp a.eval o).run P W)) ∧ wpLJ P ops J z F rest st (a.put o.dst v) w
    else wpLJ P ops J z F rest st (a.put o.dst undef) w
  | (o, .g) :: rest, st, a, w =>
    if Region.wanted o (yielded ops a.tmps) then ∀ st' W, Mv z st w st' W → givesUpon P (fun v w' => J w' ∧ Below W.heap.size W w' ∧ wpLJ P ops J z F rest st' (a.put o.dst v) w') ((execOp a.eval o).run P W)
    else wpLJ P ops J z F rest st (a.put o.dst undef) w
  | (_, .b) :: _, _, _, _ => False
variable {z : Obj} {F : Nat → Act → World → Prop}
theorem wpLJ_q {o : Oper} {rest : List (Oper × Tag)} {st : Option Nat} {a : Act} {w : World}
    (h : ∀ K : Act → Prop, (∀ a, wpLJ P ops J z F rest st a w → K a) → if Region.wanted o (yielded ops a.tmps) then ∃ v, (∀ p : BelowBy w, stillUpon p.world v ((execOp a.eval o).run P p.world)) ∧ K (a.put o.dst v) else K (a.put o.dst undef)) :
    wpLJ P ops J z F ((o, .q) :: rest) st a w := h _ fun _ h => h
theorem wpLJ_p {o : Oper} {rest : List (Oper × Tag)} {st : Option Nat} {a : Act} {w : World}
    (h : ∀ K : Act → Prop, (∀ a, wpLJ P ops J z F rest st a w → K a) → if Region.wanted o (yielded ops a.tmps) then ∃ v, (∀ W : World, J W → stillUpon W v ((execOp a.eval o).run P W)) ∧ K (a.put o.dst v) else K (a.put o.dst undef)) :
    wpLJ P ops J z F ((o, .p) :: rest) st a w := h _ fun _ h => h
theorem wpLJ_g {o : Oper} {rest : List (Oper × Tag)} {st : Option Nat} {a : Act} {w : World} (hgd : o.guard = none)
    (h : ∀ K : Option Nat → Act → World → Prop, (∀ st' a w', wpLJ P ops J z F rest st' a w' → K st' a w') → ∀ st' W, Mv z st w st' W → givesUpon P (fun v w' => J w' ∧ Grew W w' ∧ K st' (a.put o.dst v) w') ((execOp a.eval o).run P W)) :
    wpLJ P ops J z F ((o, .g) :: rest) st a w := by
  have hw : Region.wanted o (yielded ops a.tmps) = true := by simp [Region.wanted, hgd]
  simp only [wpLJ, hw, if_true]
  exact h _ fun _ _ _ h => h
theorem wpLJ_nil {st : Option Nat} {a : Act} {w : World} (h : ∀ b W, Mv z st w (some b) W → F b a W) : wpLJ P ops J z F [] st a w := h

theorem wpLJ_alloc : ∀ (l : List (Oper × Tag)) (a : Act) (w : World), wpLJ P ops J z F l none a w → wpLJ P ops J z F l (some w.heap.size) a (w.alloc z)
  | [], a, w, h => fun b W hm => h b W (by
      rcases hm with ⟨e, rfl⟩ | ⟨e, _, _⟩
      · exact .inr ⟨rfl, e, rfl⟩
      · cases e)
  | (o, .q) :: rest, a, w, h => by
    simp only [wpLJ] at h ⊢
    split at h <;> rename_i hw <;> simp only [hw, if_true, if_false, Bool.false_eq_true]
    · obtain ⟨v, h1, h2⟩ := h
      exact ⟨v, fun p => h1 ⟨p.world, ((Below.refl _ _).alloc (Nat.le_refl _) z).trans (p.h.mono (by simp))⟩, wpLJ_alloc rest _ _ h2⟩
    · exact wpLJ_alloc rest _ _ h
  | (o, .p) :: rest, a, w, h => by
    simp only [wpLJ] at h ⊢
    split at h <;> rename_i hw <;> simp only [hw, if_true, if_false, Bool.false_eq_true]
    · obtain ⟨v, h1, h2⟩ := h
      exact ⟨v, h1, wpLJ_alloc rest _ _ h2⟩
    · exact wpLJ_alloc rest _ _ h
  | (o, .g) :: rest, a, w, h => by
    simp only [wpLJ] at h ⊢
    split at h <;> rename_i hw <;> simp only [hw, if_true, if_false, Bool.false_eq_true]
    · intro st' W hm
      refine h st' W ?_
      rcases hm with ⟨e, rfl⟩ | ⟨e, _, _⟩
      · exact .inr ⟨rfl, e, rfl⟩
      · cases e
    · exact wpLJ_alloc rest _ _ h
  | (o, .b) :: rest, a, w, h => h

theorem exchLJ {oj : Oper} {tj : Tag} {post : List (Oper × Tag)} (hsj : ∀ cs b, oj.op ≠ .select cs b) (st : Option Nat) : ∀ (pre : List (Oper × Tag)) (a : Act) (w : World),
    (∀ x ∈ pre, (x.2 = .q ∨ x.2 = .p) ∧ x.1.apart ops oj = true ∧ ∀ cs b, x.1.op ≠ .select cs b) → J w → wpLJ P ops J z F (pre ++ (oj, tj) :: post) st a w →
    opStep P ops oj (fun v w' => J w' ∧ Below w.heap.size w w' ∧ wpLJ P ops J z F (pre ++ post) st (a.put oj.dst v) w') a w
  | [], a, w, _, hJ, h => by
    unfold opStep
    simp only [List.nil_append] at h ⊢
    cases tj <;> simp only [wpLJ] at h
    · split at h <;> rename_i hw <;> simp only [hw, if_true, if_false, Bool.false_eq_true]
      · obtain ⟨v, h1, h2⟩ := h
        exact givesUpon_of_still (h1 ⟨w, Below.refl _ _⟩) ⟨hJ, Below.refl _ _, h2⟩
      · exact ⟨hJ, Below.refl _ _, h⟩
    · split at h <;> rename_i hw <;> simp only [hw, if_true, if_false, Bool.false_eq_true]
      · exact h st w (.inl ⟨rfl, rfl⟩)
      · exact ⟨hJ, Below.refl _ _, h⟩
    · split at h <;> rename_i hw <;> simp only [hw, if_true, if_false, Bool.false_eq_true]
      · obtain ⟨v, h1, h2⟩ := h
        exact givesUpon_of_still (h1 w hJ) ⟨hJ, Below.refl _ _, h2⟩
      · exact ⟨hJ, Below.refl _ _, h⟩
  | (op, t) :: pre, a, w, hp, hJ, h => by
    obtain ⟨ht, hap, hsp⟩ := hp (op, t) (by simp)
    simp only at ht hap hsp
    obtain ⟨h1, h2, h3⟩ := Oper.apart_spec hap
    have hp' : ∀ x ∈ pre, (x.2 = .q ∨ x.2 = .p) ∧ x.1.apart ops oj = true ∧ ∀ cs b, x.1.op ≠ .select cs b := fun x hx => hp x (by simp [hx])
    have key : ∀ v, (∀ w', Below w.heap.size w w' → ∀ u, wpLJ P ops J z F (pre ++ post) st ((a.put oj.dst u).put op.dst v) w' → wpLJ P ops J z F ((op, t) :: (pre ++ post)) st (a.put oj.dst u) w') →
        wpLJ P ops J z F (pre ++ (oj, tj) :: post) st (a.put op.dst v) w → opStep P ops oj (fun v w' => J w' ∧ Below w.heap.size w w' ∧ wpLJ P ops J z F ((op, t) :: pre ++ post) st (a.put oj.dst v) w') a w := by
      intro v hk hh
      have ih := exchLJ hsj st pre (a.put op.dst v) w hp' hJ hh
      unfold opStep at ih ⊢
      rw [wanted_put oj a op.dst v h1, execOp_put oj hsj a op.dst v h1] at ih
      split at ih <;> rename_i hw <;> simp only [hw, if_true, if_false, Bool.false_eq_true]
      · refine givesUpon_mono ih fun u w' hh' => ⟨hh'.1, hh'.2.1, hk w' hh'.2.1 u ?_⟩
        rw [← Act.put_comm a v u h2]; exact hh'.2.2
      · refine ⟨hJ, Below.refl _ _, hk w (Below.refl _ _) undef ?_⟩
        rw [← Act.put_comm a v undef h2]; exact ih.2.2
    rcases ht with rfl | rfl
    · simp only [List.cons_append, wpLJ] at h
      split at h
      · rename_i hw
        obtain ⟨v, hv, hrest⟩ := h
        refine key v (fun w' hbw u hr => ?_) hrest
        simp only [wpLJ]
        rw [wanted_put op a oj.dst u h3, if_pos hw, execOp_put op hsp a oj.dst u h3]
        exact ⟨v, fun p => hv ⟨p.world, hbw.trans (p.h.mono hbw.size)⟩, hr⟩
      · rename_i hw
        refine key undef (fun w' hbw u hr => ?_) h
        simp only [wpLJ]
        rw [wanted_put op a oj.dst u h3, if_neg hw]
        exact hr
    · simp only [List.cons_append, wpLJ] at h
      split at h
      · rename_i hw
        obtain ⟨v, hv, hrest⟩ := h
        refine key v (fun w' hbw u hr => ?_) hrest
        simp only [wpLJ]
        rw [wanted_put op a oj.dst u h3, if_pos hw, execOp_put op hsp a oj.dst u h3]
        exact ⟨v, hv, hr⟩
      · rename_i hw
        refine key undef (fun w' hbw u hr => ?_) h
        simp only [wpLJ]
        rw [wanted_put op a oj.dst u h3, if_neg hw]
        exact hr

theorem wpLJ_toD {Q : Act → World → Prop} {fo : Oper} {pb : List (Oper × Tag)} {b : Nat} : ∀ (l : List (Oper × Tag)) (a : Act) (w : World), (∀ x ∈ l, x.2 = .p ∧ fo.apart ops x.1 = true ∧ ∀ cs b, x.1.op ≠ .select cs b) →
    wpLJ P ops J z (fun b a w => wpDJ P ops J Q pb (a.put fo.dst (flPtr b)) w) l (some b) a w → wpDJ P ops J Q (l ++ pb) (a.put fo.dst (flPtr b)) w
  | [], a, w, _, h => h b w (.inl ⟨rfl, rfl⟩)
  | (o, t) :: rest, a, w, hp, h => by
    obtain ⟨ht, hap, hsp⟩ := hp (o, t) (by simp)
    simp only at ht hap hsp
    subst ht
    obtain ⟨p1, p2, p3⟩ := Oper.apart_spec hap
    have hp' : ∀ x ∈ rest, x.2 = .p ∧ fo.apart ops x.1 = true ∧ ∀ cs b, x.1.op ≠ .select cs b := fun x hx => hp x (by simp [hx])
    simp only [List.cons_append, wpDJ]
    simp only [wpLJ] at h
    rw [wanted_put o a fo.dst (flPtr b) p1, execOp_put o hsp a fo.dst (flPtr b) p1]
    split at h <;> rename_i hw <;> simp only [hw, if_true, if_false, Bool.false_eq_true]
    · obtain ⟨v, h1, h2⟩ := h
      refine ⟨v, h1, ?_⟩
      rw [Act.put_comm a (flPtr b) v p2]
      exact wpLJ_toD rest _ _ hp' h2
    · rw [Act.put_comm a (flPtr b) undef p2]
      exact wpLJ_toD rest _ _ hp' h

theorem flJ_sound {Q : Exit → Act → World → Prop} (fi : Nat) (fo : Oper) (A B : List (Nat × Tag)) (hsel : Region.noSelect ops = true) (hcov : ∀ i, i < ops.size → ∃ x ∈ (fi, Tag.p) :: (A ++ B), x.1 = i)
    (hpw : ((fi, Tag.p) :: (A ++ B)).Pairwise (Rel2 ops)) (hsome : ∀ y ∈ (fi, Tag.p) :: (A ++ B), (ops[y.1]?).isSome = true) (htop : ∀ pre y post, (fi, Tag.p) :: (A ++ B) = pre ++ y :: post → ∀ d ∈ depsOf ops y.1, ∃ x ∈ pre, x.1 = d)
    (hfo : ops[fi]? = some fo) (hap : ∀ y ∈ A, apartB ops fi y.1 = true) (hA : ∀ y ∈ A, y.2 ≠ .b) (hanc : ∀ y ∈ B, Anc ops y.1 fi ∧ ∀ x ∈ A, x.2 ≠ .p → Anc ops y.1 x.1)
    (hrun : ∀ (a : Act) (w : World), Region.wanted fo (yielded ops a.tmps) = true ∧ (execOp a.eval fo).run P w = .ok (.value (flPtr w.heap.size)) (w.alloc z)) (hJz : ∀ w, J w → J (w.alloc z)) :
    ∀ (m : Nat) (listed : Array Bool) (st : Option Nat) (a : Act) (w : World), (rem A listed).length + (if listed.getD fi true then 0 else 1) = m → (∀ y ∈ B, listed.getD y.1 true = false) → Ideal ops listed → st.isSome = listed.getD fi true → J w →
      wpLJ P ops J z (fun b a w => wpDJ P ops J (Q .normal) (pick ops B) (a.put fo.dst (flPtr b)) w) (pick ops (rem A listed)) st a w → wpAny P .any ops Q (B.length + m) listed (realAct fo st a) w := by
  have hlt : ∀ y ∈ (fi, Tag.p) :: (A ++ B), y.1 < ops.size := fun y hy => by
    have := hsome y hy
    rw [Option.isSome_iff_exists] at this
    obtain ⟨o, ho⟩ := this
    exact (Array.getElem?_eq_some_iff.1 ho).1
  obtain ⟨hpf, hpAB⟩ := List.pairwise_cons.1 hpw
  obtain ⟨hpA, hpB, hpX⟩ := List.pairwise_append.1 hpAB
  intro m
  have hdone : ∀ (m : Nat) (listed : Array Bool) (st : Option Nat) (a : Act) (w : World), (rem A listed).length + (if listed.getD fi true then 0 else 1) = m → (∀ y ∈ B, listed.getD y.1 true = false) → Ideal ops listed → st.isSome = listed.getD fi true → J w →
      wpLJ P ops J z (fun b a w => wpDJ P ops J (Q .normal) (pick ops B) (a.put fo.dst (flPtr b)) w) (pick ops (rem A listed)) st a w → listed.getD fi true = true → (∀ y ∈ rem A listed, y.2 = .p) → wpAny P .any ops Q (B.length + m) listed (realAct fo st a) w := by
    intro m listed st a w hm hBl hid hst hJ h hfl hallp
    rw [hfl] at hst hm
    obtain ⟨b, rfl⟩ := Option.isSome_iff_exists.1 hst
    have hD := wpLJ_toD (pick ops (rem A listed)) a w (by
      intro u hu
      obtain ⟨y, hy, hyz⟩ := List.mem_filterMap.1 hu
      have hyA := (List.mem_filter.1 hy).1
      obtain ⟨oy, hoy⟩ := Option.isSome_iff_exists.1 (hsome y (by simp [hyA]))
      rw [hoy] at hyz
      simp only [Option.map_some, Option.some.injEq] at hyz
      subst hyz
      refine ⟨hallp y hy, ?_, fun cs b => Region.noSelect_spec hsel y.1 oy cs b hoy⟩
      have := hap y hyA
      unfold apartB at this
      rw [hfo, hoy] at this
      exact this) h
    have hremB : rem ((fi, Tag.p) :: (A ++ B)) listed = rem A listed ++ B := by
      have e1 : rem ((fi, Tag.p) :: (A ++ B)) listed = rem A listed ++ rem B listed := by
        unfold rem
        rw [List.filter_cons, List.filter_append]
        simp [hfl]
      rw [e1]
      congr 1
      exact List.filter_eq_self.2 fun y hy => by rw [hBl y hy]; rfl
    exact ordJ_sound (P := P) (J := J) (Q := Q) _ hsel hcov hpw hsome htop (B.length + m) listed _ w (by rw [hremB, List.length_append]; simp at hm; omega) hid hJ (by
      rw [hremB]
      unfold pick at hD ⊢
      rw [List.filterMap_append]; exact hD)
  induction m with
  | zero =>
    intro listed st a w hm hBl hid hst hJ h
    have hnil : rem A listed = [] := List.eq_nil_of_length_eq_zero (by omega)
    have hfl : listed.getD fi true = true := by
      cases hf : listed.getD fi true
      · rw [hf] at hm; simp at hm
      · rfl
    exact hdone 0 listed st a w hm hBl hid hst hJ h hfl (fun y hy => by rw [hnil] at hy; cases hy)
  | succ m ih =>
    intro listed st a w hm hBl hid hst hJ h
    by_cases hdn : listed.getD fi true = true ∧ ∀ y ∈ rem A listed, y.2 = .p
    · exact hdone (m + 1) listed st a w hm hBl hid hst hJ h hdn.1 hdn.2
    refine ⟨fun h0 => ?_, fun j hj => ?_⟩
    · exfalso
      obtain ⟨y, rest, hrem⟩ : ∃ y rest, rem ((fi, Tag.p) :: (A ++ B)) listed = y :: rest := by
        cases hr : rem ((fi, Tag.p) :: (A ++ B)) listed with
        | nil =>
          exfalso
          have e : ∀ y ∈ (fi, Tag.p) :: (A ++ B), listed.getD y.1 true = true := fun y hy => by
            cases hv : listed.getD y.1 true
            · have : y ∈ rem ((fi, Tag.p) :: (A ++ B)) listed := List.mem_filter.2 ⟨hy, by rw [hv]; rfl⟩
              rw [hr] at this; cases this
            · rfl
          have e1 := e (fi, .p) (by simp)
          have e2 : rem A listed = [] := List.filter_eq_nil_iff.2 fun y hy => by rw [e y (by simp [hy])]; simp
          simp only at e1
          rw [e1, e2] at hm
          simp at hm
        | cons y rest => exact ⟨y, rest, rfl⟩
      obtain ⟨pre, post, hord, hpre⟩ := List.filter_eq_cons_iff.1 hrem
      have hy : y ∈ (fi, Tag.p) :: (A ++ B) := by rw [hord]; simp
      obtain ⟨o, ho⟩ := Option.isSome_iff_exists.1 (hsome y hy)
      have hun : listed.getD y.1 true = false := by
        have : y ∈ rem ((fi, Tag.p) :: (A ++ B)) listed := by rw [hrem]; simp
        simpa using (List.mem_filter.1 this).2
      have : y.1 ∈ Region.ready .any ops listed := ready_of ho hun fun d hd => by
        obtain ⟨x, hx, rfl⟩ := htop pre y post hord d hd
        have h1 := hpre.1 x hx
        have hxl : x.1 < listed.size := by rw [hid.size]; exact hlt x (by rw [hord]; simp [hx])
        rw [← getD_tf hxl]
        simpa using h1
      rw [h0] at this
      cases this
    · obtain ⟨h1, h2, h3⟩ := ready_deps hj
      have hset : ∀ i, (∀ d ∈ depsOf ops i, listed.getD d false = true) → Ideal ops (listed.setIfInBounds i true) := fun i h3 => by
        refine ⟨by simp [hid.size], fun y hy d hd => ?_⟩
        by_cases hxy : i = y
        · subst hxy; exact getD_set_true (h3 d hd)
        · rw [getD_set_ne false hxy] at hy
          exact getD_set_true (hid.closed y hy d hd)
      obtain ⟨x, hx, rfl⟩ := hcov j h1
      rcases List.mem_cons.1 hx with rfl | hx'
      · -- the block is laid
        have hn : st = none := by
          simp only at h2
          rw [h2] at hst
          cases st
          · rfl
          · cases hst
        subst hn
        refine wpOp_of_step hfo ?_
        unfold opStep
        obtain ⟨hw, hr⟩ := hrun (realAct fo none a) w
        rw [if_pos hw, hr]
        have hne : ∀ y ∈ A, y.1 ≠ fi := fun y hy e => (hpf y (by simp [hy])).ne e.symm
        have hneB : ∀ y ∈ B, fi ≠ y.1 := fun y hy e => (hpf y (by simp [hy])).ne e
        have hl : fi < listed.size := by rw [hid.size]; exact h1
        have := ih (listed.setIfInBounds fi true) (some w.heap.size) a (w.alloc z) (by
            rw [rem_set hne]
            simp only at h2
            rw [h2] at hm
            simp [hl]
            simpa using hm) (fun y hy => by rw [getD_set_ne true (hneB y hy)]; exact hBl y hy) (hset fi h3) (by simp [hl]) (hJz _ hJ) (by rw [rem_set hne]; exact wpLJ_alloc _ _ _ h)
        exact this
      · rcases List.mem_append.1 hx' with hxA | hxB
        · have hxr : x ∈ rem A listed := List.mem_filter.2 ⟨hxA, by simpa using h2⟩
          obtain ⟨pre, post, hsplit⟩ := List.append_of_mem hxr
          have hpwr : (rem A listed).Pairwise (Rel2 ops) := hpA.filter _
          rw [hsplit, List.pairwise_append] at hpwr
          obtain ⟨_, hpc, hcross⟩ := hpwr
          obtain ⟨oj, hoj⟩ := Option.isSome_iff_exists.1 (hsome x hx)
          have hpre : ∀ y ∈ pre, Rel2 ops y x ∧ listed.getD y.1 false = false ∧ y ∈ A := fun y hy => by
            have hyr : y ∈ rem A listed := by rw [hsplit]; simp [hy]
            obtain ⟨hyo, hyu⟩ := List.mem_filter.1 hyr
            have hyl : y.1 < listed.size := by rw [hid.size]; exact hlt y (by simp [hyo])
            exact ⟨hcross y hy x (by simp), by rw [← getD_tf hyl]; simpa using hyu, hyo⟩
          have hno : ∀ y ∈ pre, ¬ Anc ops x.1 y.1 := fun y hy ha => by
            have := hid.anc ha h3
            rw [(hpre y hy).2.1] at this
            cases this
          have hsj : ∀ cs b, oj.op ≠ .select cs b := fun cs b => Region.noSelect_spec hsel x.1 oj cs b hoj
          have hstep := exchLJ (J := J) (P := P) (ops := ops) (z := z) (F := fun b a w => wpDJ P ops J (Q .normal) (pick ops B) (a.put fo.dst (flPtr b)) w) (oj := oj) (tj := x.2) (post := pick ops post) hsj st (pick ops pre) a w
            (by
              intro u hu
              obtain ⟨y, hy, hyz⟩ := List.mem_filterMap.1 hu
              obtain ⟨oy, hoy⟩ := Option.isSome_iff_exists.1 (hsome y (by simp [(hpre y hy).2.2]))
              rw [hoy] at hyz
              simp only [Option.map_some, Option.some.injEq] at hyz
              subst hyz
              refine ⟨?_, ?_, fun cs b => Region.noSelect_spec hsel y.1 oy cs b hoy⟩
              · cases hq : y.2 with
                | q => exact Or.inl rfl
                | p => exact Or.inr rfl
                | g => exact absurd ((hpre y hy).1.anc (by rw [hq]; rfl)) (hno y hy)
                | b => exact absurd ((hpre y hy).1.anc (by rw [hq]; rfl)) (hno y hy)
              · rcases (hpre y hy).1.apart with hd | hd
                · exact absurd (.one hd) (hno y hy)
                · unfold apartB at hd
                  rw [hoy, hoj] at hd
                  exact hd)
            hJ
            (by
              have e : pick ops (rem A listed) = pick ops pre ++ (oj, x.2) :: pick ops post := by
                rw [hsplit]; unfold pick; simp [List.filterMap_append, hoj]
              rw [← e]; exact h)
          have hfx : fi ≠ x.1 := fun e => (hpf x hx').ne e
          have hrem' : rem A (listed.setIfInBounds x.1 true) = pre ++ post := by
            have hx1 : x.1 < listed.size := by rw [hid.size]; exact h1
            have e1 : rem A (listed.setIfInBounds x.1 true) = (rem A listed).filter fun y => y.1 != x.1 := by
              unfold rem
              rw [List.filter_filter]
              apply List.filter_congr
              intro y hy
              by_cases hyx : x.1 = y.1
              · rw [← hyx]; simp [hx1]
              · have hne : (y.1 != x.1) = true := by simpa using fun h => hyx h.symm
                rw [getD_set_ne true hyx, hne]; simp
            rw [e1, hsplit, List.filter_append, List.filter_cons]
            have hp : pre.filter (fun y => y.1 != x.1) = pre := List.filter_eq_self.2 fun y hy => by simpa using (hpre y hy).1.ne
            have hq : post.filter (fun y => y.1 != x.1) = post := List.filter_eq_self.2 fun y hy => by
              have := (List.pairwise_cons.1 hpc).1 y hy
              simpa using fun e => this.ne e.symm
            rw [hp, hq]; simp
          have hlen : (pre ++ post).length + 1 = (rem A listed).length := by rw [hsplit]; simp; omega
          have e2 : ∀ v w', J w' → wpLJ P ops J z (fun b a w => wpDJ P ops J (Q .normal) (pick ops B) (a.put fo.dst (flPtr b)) w) (pick ops pre ++ pick ops post) st (a.put oj.dst v) w' →
              wpAny P .any ops Q (B.length + m) (listed.setIfInBounds x.1 true) (realAct fo st (a.put oj.dst v)) w' := fun v w' hJ' hh =>
            ih _ st _ _ (by rw [hrem', getD_set_ne true (fun e => hfx e.symm)]; omega) (fun y hy => by rw [getD_set_ne true (hpX x hxA y hy).ne]; exact hBl y hy) (hset x.1 h3) (by rw [getD_set_ne true (fun e => hfx e.symm)]; exact hst) hJ'
              (by rw [hrem']; unfold pick at hh ⊢; rw [List.filterMap_append]; exact hh)
          have hapx := hap x hxA
          unfold apartB at hapx
          rw [hfo, hoj] at hapx
          obtain ⟨p1, p2, p3⟩ := Oper.apart_spec hapx
          refine wpOp_of_step hoj ?_
          cases st with
          | none =>
            show opStep P ops oj (fun v w' => wpAny P .any ops Q (B.length + m) (listed.setIfInBounds x.1 true) (a.put oj.dst v) w') a w
            unfold opStep at hstep ⊢
            split at hstep <;> rename_i hw <;> simp only [hw, if_true, if_false, Bool.false_eq_true]
            · exact givesUpon_mono hstep fun v w' hh => e2 v w' hh.1 hh.2.2
            · exact e2 _ _ hstep.1 hstep.2.2
          | some b =>
            show opStep P ops oj (fun v w' => wpAny P .any ops Q (B.length + m) (listed.setIfInBounds x.1 true) ((a.put fo.dst (flPtr b)).put oj.dst v) w') (a.put fo.dst (flPtr b)) w
            unfold opStep at hstep ⊢
            rw [wanted_put oj a fo.dst (flPtr b) p1, execOp_put oj hsj a fo.dst (flPtr b) p1]
            split at hstep <;> rename_i hw <;> simp only [hw, if_true, if_false, Bool.false_eq_true]
            · exact givesUpon_mono hstep fun v w' hh => by rw [Act.put_comm a (flPtr b) v p2]; exact e2 v w' hh.1 hh.2.2
            · rw [Act.put_comm a (flPtr b) undef p2]; exact e2 _ _ hstep.1 hstep.2.2
        · exfalso
          obtain ⟨ha1, ha2⟩ := hanc x hxB
          have hfl := hid.anc ha1 h3
          have hf1 : listed.getD fi true = true := by
            rw [getD_tf (by rw [hid.size]; exact hlt (fi, .p) (by simp))]; exact hfl
          refine hdn ⟨hf1, fun y hy => ?_⟩
          obtain ⟨hyA, hyl⟩ := List.mem_filter.1 hy
          cases hq : y.2 with
          | p => rfl
          | _ =>
            have := hid.anc (ha2 y hyA (by rw [hq]; decide)) h3
            rw [getD_tf (by rw [hid.size]; exact hlt y (by simp [hyA])), this] at hyl
            cases hyl

/-- **The rule.** -/
theorem wp_region_flJ {id : Nat} {Q : Exit → Act → World → Prop} {a : Act} {w : World} {l : List Oper} (fi : Nat) (A B : List (Nat × Tag)) (fo : Oper) (z : Obj) (hm : P.follows .mixedOrders = true)
    (hB : ordB l.toArray ((fi, .p) :: (A ++ B)) = true) (hB2 : ordB l.toArray ((fi, .q) :: (toQ A .q ++ toB B)) = true) (hA : (A.all fun x => x.2 != .b && apartB l.toArray fi x.1) = true) (hfo : l.toArray[fi]? = some fo)
    (hrun : ∀ (a : Act) (w : World), Region.wanted fo (yielded l.toArray a.tmps) = true ∧ (execOp a.eval fo).run P w = .ok (.value (flPtr w.heap.size)) (w.alloc z)) (J : World → Prop) (hJ : J w.drew) (hJz : ∀ w, J w → J (w.alloc z))
    (h : wpLJ P l.toArray J z (fun b a w => wpDJ P l.toArray J (Q .normal) (pick l.toArray B) (a.put fo.dst (flPtr b)) w) (pick l.toArray A) none a w.drew) : (Code.region id l.toArray true).wp P Q a w := by
  have hanc : ∀ y ∈ B, Anc l.toArray y.1 fi ∧ ∀ x ∈ A, x.2 ≠ .p → Anc l.toArray y.1 x.1 := by
    simp only [ordB, Bool.and_eq_true, beq_iff_eq] at hB2
    obtain ⟨hpw, _, _, _⟩ := ordFrom_spec _ [] hB2.2 (fun _ h => by cases h)
    obtain ⟨hpf, hpAB⟩ := List.pairwise_cons.1 hpw
    obtain ⟨_, _, hpX⟩ := List.pairwise_append.1 hpAB
    intro y hy
    have hyB : (y.1, Tag.b) ∈ toB B := List.mem_map.2 ⟨y, hy, rfl⟩
    exact ⟨(hpf (y.1, .b) (by simp [hyB])).anc rfl, fun x hx hxp => (hpX (x.1, .q) (List.mem_map.2 ⟨x, hx, by rw [if_neg hxp]⟩) (y.1, .b) hyB).anc rfl⟩
  simp only [ordB, Bool.and_eq_true, beq_iff_eq] at hB
  obtain ⟨⟨⟨hsel, hlen⟩, hcov⟩, hfrom⟩ := hB
  obtain ⟨hpw, _, hsome, htop⟩ := ordFrom_spec _ [] hfrom (fun _ h => by cases h)
  refine wp_region_any hm ?_
  have hun : ∀ y ∈ (fi, Tag.p) :: (A ++ B), (Array.replicate l.toArray.size false).getD y.1 true = false := fun y hy => by
    obtain ⟨o, ho⟩ := Option.isSome_iff_exists.1 (hsome y hy)
    have := (Array.getElem?_eq_some_iff.1 ho).1
    simp at this
    simp [this]
  have hremA : rem A (Array.replicate l.toArray.size false) = A := List.filter_eq_self.2 fun y hy => by rw [hun y (by simp [hy])]; rfl
  have hf0 := hun (fi, .p) (by simp)
  simp only at hf0
  have hs := flJ_sound (P := P) (J := J) (Q := Q) (z := z) fi fo A B hsel (fun i hi => by
    have := List.all_eq_true.1 hcov i (List.mem_range.2 hi)
    obtain ⟨x, hx, hxi⟩ := List.any_eq_true.1 this
    exact ⟨x, hx, by simpa using hxi⟩) hpw hsome (fun pre y post he d hd => by
      rcases htop pre y post he d hd with ⟨x, hx, _⟩ | hx
      · cases hx
      · exact hx) hfo (fun y hy => by have := List.all_eq_true.1 hA y hy; simp only [Bool.and_eq_true] at this; exact this.2) (fun y hy => by have := List.all_eq_true.1 hA y hy; simp only [Bool.and_eq_true, bne_iff_ne] at this; exact this.1) hanc hrun hJz
    (A.length + 1) (Array.replicate l.toArray.size false) none a w.drew (by rw [hremA, hf0]; simp) (fun y hy => hun y (by simp [hy]))
      ⟨by simp, fun y hy => by
        rcases Nat.lt_or_ge y l.toArray.size with h | h
        · simp at h; simp [h] at hy
        · simp at h; simp [h] at hy⟩ (by rw [hf0]; rfl) hJ (by rw [hremA]; exact h)
  have hn : B.length + (A.length + 1) = l.toArray.size := by
    rw [← hlen]; simp; omega
  rw [hn] at hs
  exact hs
end
/-- A read (or a pure step) that every world of the region allows: the value is to be found in each of them. -/
theorem wpDJ_pv {P : Program} {ops : Array Oper} {J : World → Prop} {Q : Act → World → Prop} {o : Oper} {rest : List (Oper × Tag)} {a : Act} {w : World} (hgd : o.guard = none)
    (h : ∀ K : Act → Prop, (∀ a, wpDJ P ops J Q rest a w → K a) → ∃ v, (∀ W : World, J W → stillUpon W v ((execOp a.eval o).run P W)) ∧ K (a.put o.dst v)) :
    wpDJ P ops J Q ((o, .p) :: rest) a w := by
  have hw : Region.wanted o (yielded ops a.tmps) = true := by simp [Region.wanted, hgd]
  simp only [wpDJ, hw, if_true]
  exact h _ fun _ h => h
theorem wpLJ_pv {P : Program} {ops : Array Oper} {J : World → Prop} {z : Obj} {F : Nat → Act → World → Prop} {o : Oper} {rest : List (Oper × Tag)} {st : Option Nat} {a : Act} {w : World} (hgd : o.guard = none)
    (h : ∀ K : Act → Prop, (∀ a, wpLJ P ops J z F rest st a w → K a) → ∃ v, (∀ W : World, J W → stillUpon W v ((execOp a.eval o).run P W)) ∧ K (a.put o.dst v)) :
    wpLJ P ops J z F ((o, .p) :: rest) st a w := by
  have hw : Region.wanted o (yielded ops a.tmps) = true := by simp [Region.wanted, hgd]
  simp only [wpLJ, hw, if_true]
  exact h _ fun _ h => h
end Go.Proofs.Ytkppijcjmhkkkaa
/- Walks: blocks of points and their cells. -/





namespace Go.Proofs.Ytkppijcjmhkkkaa
open Go.RowKit Go.Shelf
attribute [local go_sem] BelowBy.cell BelowBy.cell_drew stillUpon givesUpon

theorem floor_neg {a k : Int} (hk : 1 ≤ k ∧ k ≤ 4) : -((-a + k - 1) / k) = a / k := by
  have : k = 1 ∨ k = 2 ∨ k = 3 ∨ k = 4 := by omega
  rcases this with rfl | rfl | rfl | rfl <;> omega
theorem floorDiv_any {a k r : Int} {w : World} (ha : -1000 ≤ a ∧ a ≤ 1000) (hk : 1 ≤ k ∧ k ≤ 4) (hr : a / k = r) :
    Calls Try.prog 30 #[.int .i64 a, .int .i64 k] w fun e w' => e = .returned (.int .i64 r) ∧ Below w.heap.size w w' := by
  subst hr
  have hb : -1000 ≤ a / k ∧ a / k ≤ 1000 := by
    have : k = 1 ∨ k = 2 ∨ k = 3 ∨ k = 4 := by omega
    rcases this with rfl | rfl | rfl | rfl <;> omega
  by_cases h : a < 0
  · have hf := Lib.hid (floor_neg (a := a) hk)
    obtain ⟨q, hq⟩ : ∃ q, (-a + k - 1) / k = q := ⟨_, rfl⟩
    have hq1 : -1000 ≤ q ∧ q ≤ 1000 := by have := hf.out; rw [hq] at this; omega
    go_enter Try.func30, Try.ntmps30
    go_wp2
    go_ret
    exact ⟨ret_int (by rw [← hq]; exact hf.out), bl_refl _⟩
  · go_enter Try.func30, Try.ntmps30
    go_wp2
    go_ret
    exact ⟨rfl, bl_refl _⟩
structure FlOf (a k r : Int) : Prop where
  ha : -1000 ≤ a ∧ a ≤ 1000
  hk : 1 ≤ k ∧ k ≤ 4
  hr : a / k = r
theorem floorDiv_f {a k r : Int} {w : World} (h : FlOf a k r) :
    Calls Try.prog 30 #[.int .i64 a, .int .i64 k] w fun e w' => e = .returned (.int .i64 r) ∧ Below w.heap.size w w' := floorDiv_any h.ha h.hk h.hr
end Go.Proofs.Ytkppijcjmhkkkaa
