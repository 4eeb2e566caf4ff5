import Derived.Orders
import Derived.Below
import Derived.Still
import Derived.WalkKit
import Derived.WalkSpells
import Derived.WalkLawsBesides
import Derived.Deep.QuietTactic
import Derived.BigQuiet
import Derived.Lib.Hide
import Derived.Deep.LoopGhost
import Derived.Test.YtkppijcjmhkkkaaProg
set_option linter.unusedSimpArgs false
set_option linter.unusedVariables false
/- A region that draws its order: one walk in one order of its operations serves every order, if the operations that change the world follow one another and the others read only what those leave alone. -/



namespace Go.Proofs.Ytkppijcjmhkkkaa
open Go.RowKit

/-- A world that is w below w's heap: what is new lies behind. -/
structure BelowBy (w : World) where
  world : World
  h : Below w.heap.size w world

instance (w : World) : Inhabited (BelowBy w) := ⟨⟨w, Below.refl _ _⟩⟩

theorem BelowBy.cell {W : World} (p : BelowBy W) (b o : Nat) (h : b < W.heap.size) : p.world.cell? ⟨b, o, none⟩ = W.cell? ⟨b, o, none⟩ := p.h.cell h

/-- (As simp wants it: the side condition without the draw.) -/
theorem BelowBy.cell_drew {W : World} (p : BelowBy W.drew) (b o : Nat) (h : b < W.heap.size) : p.world.cell? ⟨b, o, none⟩ = W.cell? ⟨b, o, none⟩ := p.h.cell h

/-- How an operation is taken: p: it looks at no memory; q: it reads alone; g: it may lay blocks; b: it may write, and all that stand before it (but for those of p) come before it. -/
inductive Tag where
  | q | g | b | p
  deriving DecidableEq
def Tag.must : Tag → Tag → Bool
  | .p, _ => false
  | .q, .b => true
  | .q, _ => false
  | .g, _ => true
  | .b, _ => true

def givesUpon (P : Program) (R : Value → World → Prop) : Result Next → Prop
  | .ok (.value v) w' => R v w'
  | .ok .skip w' => R undef w'
  | .ok (.enter f args) w' => Calls P f args w' fun e w'' => ∃ v, e = .returned v ∧ R v w''
  | _ => False

def stillUpon (w : World) (v : Value) : Result Next → Prop
  | .ok (.value u) w' => w' = w ∧ u = v
  | .ok .skip w' => w' = w ∧ undef = v
  | _ => False

theorem givesUpon_mono {P : Program} {R R' : Value → World → Prop} {r : Result Next} (h : givesUpon P R r) (hR : ∀ v w, R v w → R' v w) : givesUpon P R' r := by
  unfold givesUpon at *
  split at h
  · exact hR _ _ h
  · exact hR _ _ h
  · exact h.mono fun e w ⟨v, he, hr⟩ => ⟨v, he, hR _ _ hr⟩
  · exact h.elim

theorem givesUpon_of_still {P : Program} {R : Value → World → Prop} {w : World} {v : Value} {r : Result Next} (h : stillUpon w v r) (hR : R v w) : givesUpon P R r := by
  unfold stillUpon at h
  unfold givesUpon
  split at h
  · obtain ⟨rfl, rfl⟩ := h; exact hR
  · obtain ⟨rfl, rfl⟩ := h; exact hR
  · exact h.elim

theorem wp_of_gives {P : Program} {o : Oper} {a : Act} {w : World} {K : Act → World → Prop} {Q : Exit → Act → World → Prop}
    (h : givesUpon P (fun v w' => K (a.put o.dst v) w') ((execOp a.eval o).run P w)) : o.wp P a w K Q := by
  unfold Oper.wp
  generalize (execOp a.eval o).run P w = r at *
  cases r with
  | ok n w' =>
    cases n <;> simp only [givesUpon] at h <;> simp only [Oper.upon]
    case value v => exact h
    case skip => exact h
    case enter f args =>
      refine h.mono fun e w'' he => ?_
      obtain ⟨v, rfl, hk⟩ := he
      exact hk
  | halt x w' => simp only [givesUpon] at h

section
variable {P : Program} {ops : Array Oper}

def wpD (P : Program) (ops : Array Oper) (Q : Act → World → Prop) : List (Oper × Tag) → Act → World → Prop
  | [], a, w => Q a w
  | (o, .q) :: rest, a, w =>
    if Region.wanted o (yielded ops a.tmps) then ∃ v, (∀ p : BelowBy w, stillUpon p.world v ((execOp a.eval o).run P p.world)) ∧ wpD P ops Q rest (a.put o.dst v) w
    else wpD P ops Q rest (a.put o.dst undef) w
  | (o, .g) :: rest, a, w =>
    if Region.wanted o (yielded ops a.tmps) then givesUpon P (fun v w' => Below w.heap.size w w' ∧ wpD P ops Q rest (a.put o.dst v) w') ((execOp a.eval o).run P w)
    else wpD P ops Q rest (a.put o.dst undef) w
  | (o, .b) :: rest, a, w =>
    if Region.wanted o (yielded ops a.tmps) then givesUpon P (fun v w' => wpD P ops Q rest (a.put o.dst v) w') ((execOp a.eval o).run P w)
    else wpD P ops Q rest (a.put o.dst undef) w
  | (o, .p) :: rest, a, w =>
    if Region.wanted o (yielded ops a.tmps) then ∃ v, (∀ W : World, stillUpon W v ((execOp a.eval o).run P W)) ∧ wpD P ops Q rest (a.put o.dst v) w
    else wpD P ops Q rest (a.put o.dst undef) w

/-- Behind a name that simp does not open. -/
def Grew (w w' : World) : Prop := Below w.heap.size w w'
theorem Grew.of_alloc {w : World} (o : Obj) : Grew w (w.alloc o) := (Below.refl _ _).alloc (Nat.le_refl _) _

/-- One operation at a time, what follows behind a variable. -/
theorem wpD_q {Q : Act → World → Prop} {o : Oper} {rest : List (Oper × Tag)} {a : Act} {w : World}
    (h : ∀ K : Act → Prop, (∀ a, wpD P ops Q rest a w → K a) → if Region.wanted o (yielded ops a.tmps) then ∃ v, (∀ p : BelowBy w, stillUpon p.world v ((execOp a.eval o).run P p.world)) ∧ K (a.put o.dst v) else K (a.put o.dst undef)) :
    wpD P ops Q ((o, .q) :: rest) a w := h _ fun _ h => h
theorem wpD_g {Q : Act → World → Prop} {o : Oper} {rest : List (Oper × Tag)} {a : Act} {w : World}
    (h : ∀ K : Act → World → Prop, (∀ a w', wpD P ops Q rest a w' → K a w') → if Region.wanted o (yielded ops a.tmps) then givesUpon P (fun v w' => Grew w w' ∧ K (a.put o.dst v) w') ((execOp a.eval o).run P w) else K (a.put o.dst undef) w) :
    wpD P ops Q ((o, .g) :: rest) a w := h _ fun _ _ h => h
theorem wpD_b {Q : Act → World → Prop} {o : Oper} {rest : List (Oper × Tag)} {a : Act} {w : World}
    (h : ∀ K : Act → World → Prop, (∀ a w', wpD P ops Q rest a w' → K a w') → if Region.wanted o (yielded ops a.tmps) then givesUpon P (fun v w' => K (a.put o.dst v) w') ((execOp a.eval o).run P w) else K (a.put o.dst undef) w) :
    wpD P ops Q ((o, .b) :: rest) a w := h _ fun _ _ h => h
theorem wpD_p {Q : Act → World → Prop} {o : Oper} {rest : List (Oper × Tag)} {a : Act} {w : World}
    (h : ∀ K : Act → Prop, (∀ a, wpD P ops Q rest a w → K a) → if Region.wanted o (yielded ops a.tmps) then ∃ v, (∀ W : World, stillUpon W v ((execOp a.eval o).run P W)) ∧ K (a.put o.dst v) else K (a.put o.dst undef)) :
    wpD P ops Q ((o, .p) :: rest) a w := h _ fun _ h => h
theorem wpD_nil {Q : Act → World → Prop} {a : Act} {w : World} (h : Q a w) : wpD P ops Q [] a w := h

def opStep (P : Program) (ops : Array Oper) (o : Oper) (R : Value → World → Prop) (a : Act) (w : World) : Prop :=
  if Region.wanted o (yielded ops a.tmps) then givesUpon P R ((execOp a.eval o).run P w) else R undef w

theorem exch {Q : Act → World → Prop} {oj : Oper} {tj : Tag} {post : List (Oper × Tag)} (hsj : ∀ cs b, oj.op ≠ .select cs b) : ∀ (pre : List (Oper × Tag)) (a : Act) (w : World),
    (∀ x ∈ pre, (x.2 = .q ∨ x.2 = .p) ∧ x.1.apart ops oj = true ∧ ∀ cs b, x.1.op ≠ .select cs b) → (tj = .b → ∀ x ∈ pre, x.2 = .p) → wpD P ops Q (pre ++ (oj, tj) :: post) a w →
    opStep P ops oj (fun v w' => (tj ≠ .b → Below w.heap.size w w') ∧ wpD P ops Q (pre ++ post) (a.put oj.dst v) w') a w
  | [], a, w, _, _, h => by
    unfold opStep
    simp only [List.nil_append] at h ⊢
    cases tj <;> simp only [wpD] at h <;> split at h <;> rename_i hw <;> simp only [hw, if_true, if_false, Bool.false_eq_true]
    · obtain ⟨v, h1, h2⟩ := h
      exact givesUpon_of_still (h1 ⟨w, Below.refl _ _⟩) ⟨fun _ => Below.refl _ _, h2⟩
    · exact ⟨fun _ => Below.refl _ _, h⟩
    · exact givesUpon_mono h fun v w' hh => ⟨fun _ => hh.1, hh.2⟩
    · exact ⟨fun _ => Below.refl _ _, h⟩
    · exact givesUpon_mono h fun v w' hh => ⟨fun hn => absurd rfl hn, hh⟩
    · exact ⟨fun _ => Below.refl _ _, h⟩
    · obtain ⟨v, h1, h2⟩ := h
      exact givesUpon_of_still (h1 w) ⟨fun _ => Below.refl _ _, h2⟩
    · exact ⟨fun _ => Below.refl _ _, h⟩
  | (op, t) :: pre, a, w, hp, hb, h => by
    obtain ⟨ht, hap, hsp⟩ := hp (op, t) (by simp)
    simp only at ht hap hsp
    obtain ⟨h1, h2, h3⟩ := Oper.apart_spec hap
    have hp' : ∀ x ∈ pre, (x.2 = .q ∨ x.2 = .p) ∧ x.1.apart ops oj = true ∧ ∀ cs b, x.1.op ≠ .select cs b := fun x hx => hp x (by simp [hx])
    have hb' : tj = .b → ∀ x ∈ pre, x.2 = .p := fun e x hx => hb e x (by simp [hx])
    have key : ∀ v, (∀ w', (tj ≠ .b → Below w.heap.size w w') → ∀ u, wpD P ops Q (pre ++ post) ((a.put oj.dst u).put op.dst v) w' → wpD P ops Q ((op, t) :: (pre ++ post)) (a.put oj.dst u) w') →
        wpD P ops Q (pre ++ (oj, tj) :: post) (a.put op.dst v) w → opStep P ops oj (fun v w' => (tj ≠ .b → Below w.heap.size w w') ∧ wpD P ops Q ((op, t) :: pre ++ post) (a.put oj.dst v) w') a w := by
      intro v hk hh
      have ih := exch hsj pre (a.put op.dst v) w hp' hb' hh
      unfold opStep at ih ⊢
      rw [wanted_put oj a op.dst v h1, execOp_put oj hsj a op.dst v h1] at ih
      split at ih <;> rename_i hw <;> simp only [hw, if_true, if_false, Bool.false_eq_true]
      · refine givesUpon_mono ih fun u w' hh' => ⟨hh'.1, hk w' hh'.1 u ?_⟩
        rw [← Act.put_comm a v u h2]; exact hh'.2
      · refine ⟨ih.1, hk w (fun _ => Below.refl _ _) undef ?_⟩
        rw [← Act.put_comm a v undef h2]; exact ih.2
    rcases ht with rfl | rfl
    · have hnb : tj ≠ .b := fun e => by have := hb e (op, .q) (by simp); cases this
      simp only [List.cons_append, wpD] at h
      split at h
      · rename_i hw
        obtain ⟨v, hv, hrest⟩ := h
        refine key v (fun w' hbw u hr => ?_) hrest
        have hbw := hbw hnb
        simp only [wpD]
        rw [wanted_put op a oj.dst u h3, if_pos hw, execOp_put op hsp a oj.dst u h3]
        exact ⟨v, fun p => hv ⟨p.world, hbw.trans (p.h.mono hbw.size)⟩, hr⟩
      · rename_i hw
        refine key undef (fun w' hbw u hr => ?_) h
        simp only [wpD]
        rw [wanted_put op a oj.dst u h3, if_neg hw]
        exact hr
    · simp only [List.cons_append, wpD] at h
      split at h
      · rename_i hw
        obtain ⟨v, hv, hrest⟩ := h
        refine key v (fun w' hbw u hr => ?_) hrest
        simp only [wpD]
        rw [wanted_put op a oj.dst u h3, if_pos hw, execOp_put op hsp a oj.dst u h3]
        exact ⟨v, hv, hr⟩
      · rename_i hw
        refine key undef (fun w' hbw u hr => ?_) h
        simp only [wpD]
        rw [wanted_put op a oj.dst u h3, if_neg hw]
        exact hr

/-! ### the order -/
def depsOf (ops : Array Oper) (i : Nat) : List Nat := match ops[i]? with
  | some o => o.after.toList.filterMap fun e => if Region.binds .any e then some e.on else none
  | none => []

inductive Anc (ops : Array Oper) : Nat → Nat → Prop
  | one {y x : Nat} : x ∈ depsOf ops y → Anc ops y x
  | step {y e x : Nat} : e ∈ depsOf ops y → Anc ops e x → Anc ops y x

def apartB (ops : Array Oper) (x i : Nat) : Bool := match ops[x]?, ops[i]? with
  | some ox, some o => ox.apart ops o
  | _, _ => false

def ordFrom (ops : Array Oper) : List (Nat × Tag × List Nat) → List (Nat × Tag) → Bool
  | _, [] => true
  | bef, (i, t) :: rest =>
    let ds := depsOf ops i
    let l := (ds ++ (bef.filter fun x => ds.contains x.1).flatMap (·.2.2)).eraseDups
    (ops[i]?).isSome && ds.all (fun d => bef.any fun x => x.1 == d) &&
    bef.all (fun x => x.1 != i && (ds.contains x.1 || apartB ops x.1 i) && (!(x.2.1.must t) || l.contains x.1)) &&
    ordFrom ops ((i, t, l) :: bef) rest

def ordB (ops : Array Oper) (ord : List (Nat × Tag)) : Bool :=
  Region.noSelect ops && ord.length == ops.size && (List.range ops.size).all (fun i => ord.any fun x => x.1 == i) && ordFrom ops [] ord

structure Rel2 (ops : Array Oper) (x y : Nat × Tag) : Prop where
  ne : x.1 ≠ y.1
  apart : x.1 ∈ depsOf ops y.1 ∨ apartB ops x.1 y.1 = true
  anc : x.2.must y.2 = true → Anc ops y.1 x.1

theorem ordFrom_spec : ∀ (rest : List (Nat × Tag)) (bef : List (Nat × Tag × List Nat)), ordFrom ops bef rest = true → (∀ x ∈ bef, ∀ y ∈ x.2.2, Anc ops x.1 y) →
    rest.Pairwise (Rel2 ops) ∧ (∀ x ∈ bef, ∀ y ∈ rest, Rel2 ops (x.1, x.2.1) y) ∧ (∀ y ∈ rest, (ops[y.1]?).isSome = true) ∧
    ∀ pre y post, rest = pre ++ y :: post → ∀ d ∈ depsOf ops y.1, (∃ x ∈ bef, x.1 = d) ∨ ∃ x ∈ pre, x.1 = d
  | [], bef, _, _ => ⟨.nil, fun _ _ _ h => (by cases h), fun _ h => (by cases h), fun pre y post h => by simp at h⟩
  | (i, t) :: rest, bef, h, hb => by
    simp only [ordFrom, Bool.and_eq_true] at h
    obtain ⟨⟨⟨hsome, hds⟩, hall⟩, hrest⟩ := h
    have hl : ∀ y ∈ ((depsOf ops i) ++ (bef.filter fun x => (depsOf ops i).contains x.1).flatMap (·.2.2)).eraseDups, Anc ops i y := by
      intro y hy
      rw [List.mem_eraseDups, List.mem_append] at hy
      rcases hy with hy | hy
      · exact .one hy
      · obtain ⟨x, hx, hyx⟩ := List.mem_flatMap.1 hy
        obtain ⟨hx1, hx2⟩ := List.mem_filter.1 hx
        exact .step (by simpa using hx2) (hb x hx1 y hyx)
    obtain ⟨ih1, ih2, ih3, ih4⟩ := ordFrom_spec rest _ hrest (by
      intro x hx y hy
      rcases List.mem_cons.1 hx with rfl | hx
      · exact hl y hy
      · exact hb x hx y hy)
    refine ⟨List.pairwise_cons.2 ⟨fun y hy => ih2 _ List.mem_cons_self y hy, ih1⟩, ?_, ?_, ?_⟩
    · intro x hx y hy
      rcases List.mem_cons.1 hy with rfl | hy
      · have := List.all_eq_true.1 hall x hx
        simp only [Bool.and_eq_true, Bool.or_eq_true, bne_iff_ne, ne_eq, Bool.not_eq_true', List.contains_iff_mem] at this
        obtain ⟨⟨h1, h2⟩, h3⟩ := this
        refine ⟨h1, h2, fun hq => ?_⟩
        rcases h3 with h3 | h3
        · exact absurd (hq.symm.trans h3) (by decide)
        · exact hl _ h3
      · exact ih2 x (by simp [hx]) y hy
    · intro y hy
      rcases List.mem_cons.1 hy with rfl | hy
      · exact hsome
      · exact ih3 y hy
    · intro pre y post he d hd
      cases pre with
      | nil =>
        simp only [List.nil_append, List.cons.injEq] at he
        obtain ⟨rfl, _⟩ := he
        have := List.all_eq_true.1 hds d hd
        obtain ⟨x, hx, hxd⟩ := List.any_eq_true.1 this
        exact .inl ⟨x, hx, by simpa using hxd⟩
      | cons z pre =>
        simp only [List.cons_append, List.cons.injEq] at he
        obtain ⟨rfl, he⟩ := he
        rcases ih4 pre y post he d hd with ⟨x, hx, hxd⟩ | ⟨x, hx, hxd⟩
        · rcases List.mem_cons.1 hx with rfl | hx
          · exact .inr ⟨_, List.mem_cons_self, hxd⟩
          · exact .inl ⟨x, hx, hxd⟩
        · exact .inr ⟨x, List.mem_cons_of_mem _ hx, hxd⟩

def pick (ops : Array Oper) (ord : List (Nat × Tag)) : List (Oper × Tag) := ord.filterMap fun x => (ops[x.1]?).map fun o => (o, x.2)

def rem (ord : List (Nat × Tag)) (listed : Array Bool) : List (Nat × Tag) := ord.filter fun x => !listed.getD x.1 true

structure Ideal (ops : Array Oper) (listed : Array Bool) : Prop where
  size : listed.size = ops.size
  closed : ∀ y, listed.getD y false = true → ∀ d ∈ depsOf ops y, listed.getD d false = true

theorem Ideal.anc {listed : Array Bool} (h : Ideal ops listed) {y x : Nat} (ha : Anc ops y x) (hy : ∀ d ∈ depsOf ops y, listed.getD d false = true) : listed.getD x false = true := by
  induction ha with
  | one h1 => exact hy _ h1
  | step h1 _ ih => exact ih fun d hd => h.closed _ (hy _ h1) d hd

theorem ready_deps {listed : Array Bool} {j : Nat} (h : j ∈ Region.ready .any ops listed) : j < ops.size ∧ listed.getD j true = false ∧ ∀ d ∈ depsOf ops j, listed.getD d false = true := by
  obtain ⟨h1, oj, hoj, hall⟩ := mem_ready.1 h
  refine ⟨(Array.getElem?_eq_some_iff.1 hoj).1, h1, fun d hd => ?_⟩
  unfold depsOf at hd
  rw [hoj] at hd
  simp only [List.mem_filterMap] at hd
  obtain ⟨e, he, hb⟩ := hd
  split at hb
  · rename_i hbind
    injection hb with hb
    subst hb
    exact hall e (by simpa using he) hbind
  · cases hb

theorem ready_of {listed : Array Bool} {j : Nat} {oj : Oper} (hj : ops[j]? = some oj) (h1 : listed.getD j true = false) (h : ∀ d ∈ depsOf ops j, listed.getD d false = true) : j ∈ Region.ready .any ops listed := by
  refine mem_ready.2 ⟨h1, oj, hj, fun e he hb => h e.on ?_⟩
  unfold depsOf
  rw [hj]
  simp only [List.mem_filterMap]
  exact ⟨e, by simpa using he, by rw [if_pos hb]⟩

theorem wpOp_of_step {j : Nat} {oj : Oper} {a : Act} {w : World} {K : Act → World → Prop} {Q : Exit → Act → World → Prop} (hj : ops[j]? = some oj)
    (h : opStep P ops oj (fun v w' => K (a.put oj.dst v) w') a w) : wpOp P ops Q j K a w := by
  unfold wpOp
  unfold opStep at h
  simp only [hj]
  split at h <;> rename_i hw <;> simp only [hw, if_true, if_false, Bool.false_eq_true]
  · exact .inl (wp_of_gives h)
  · exact h

theorem getD_tf {listed : Array Bool} {i : Nat} (hi : i < listed.size) : listed.getD i true = listed.getD i false := by simp [hi]

theorem ord_sound {Q : Exit → Act → World → Prop} (ord : List (Nat × Tag)) (hsel : Region.noSelect ops = true) (hcov : ∀ i, i < ops.size → ∃ x ∈ ord, x.1 = i)
    (hpw : ord.Pairwise (Rel2 ops)) (hsome : ∀ y ∈ ord, (ops[y.1]?).isSome = true) (htop : ∀ pre y post, ord = pre ++ y :: post → ∀ d ∈ depsOf ops y.1, ∃ x ∈ pre, x.1 = d) :
    ∀ (m : Nat) (listed : Array Bool) (a : Act) (w : World), (rem ord listed).length = m → Ideal ops listed → wpD P ops (Q .normal) (pick ops (rem ord listed)) a w → wpAny P .any ops Q m listed a w := by
  have hlt : ∀ y ∈ ord, y.1 < ops.size := fun y hy => by
    have := hsome y hy
    rw [Option.isSome_iff_exists] at this
    obtain ⟨o, ho⟩ := this
    exact (Array.getElem?_eq_some_iff.1 ho).1
  intro m
  induction m with
  | zero =>
    intro listed a w hm hid h
    have hnil : rem ord listed = [] := List.eq_nil_of_length_eq_zero hm
    refine ⟨?_, by rw [hnil] at h; exact h⟩
    apply List.eq_nil_iff_forall_not_mem.2
    intro j hj
    obtain ⟨h1, h2, _⟩ := ready_deps hj
    obtain ⟨x, hx, rfl⟩ := hcov j h1
    have : x ∈ rem ord listed := List.mem_filter.2 ⟨hx, by simpa using h2⟩
    rw [hnil] at this
    cases this
  | succ m ih =>
    intro listed a w hm hid h
    refine ⟨fun h0 => ?_, fun j hj => ?_⟩
    · -- the first that has not come up is ready
      exfalso
      obtain ⟨y, rest, hrem⟩ : ∃ y rest, rem ord listed = y :: rest := by
        cases hr : rem ord listed with
        | nil => rw [hr] at hm; cases hm
        | cons y rest => exact ⟨y, rest, rfl⟩
      obtain ⟨pre, post, hord, hpre⟩ := List.filter_eq_cons_iff.1 hrem
      have hy : y ∈ ord := by rw [hord]; simp
      obtain ⟨o, ho⟩ := Option.isSome_iff_exists.1 (hsome y hy)
      have hun : listed.getD y.1 true = false := by
        have : y ∈ rem ord listed := by rw [hrem]; simp
        simpa using (List.mem_filter.1 this).2
      have : y.1 ∈ Region.ready .any ops listed := ready_of ho hun fun d hd => by
        obtain ⟨x, hx, rfl⟩ := htop pre y post hord d hd
        have h1 := hpre.1 x hx
        have hxl : x.1 < listed.size := by rw [hid.size]; exact hlt x (by rw [hord]; simp [hx])
        rw [← getD_tf hxl]
        simpa using h1
      rw [h0] at this
      cases this
    · obtain ⟨h1, h2, h3⟩ := ready_deps hj
      obtain ⟨x, hx, rfl⟩ := hcov j h1
      have hxr : x ∈ rem ord listed := List.mem_filter.2 ⟨hx, by simpa using h2⟩
      obtain ⟨pre, post, hsplit⟩ := List.append_of_mem hxr
      have hpwr : (rem ord listed).Pairwise (Rel2 ops) := hpw.filter _
      rw [hsplit, List.pairwise_append] at hpwr
      obtain ⟨_, hpc, hcross⟩ := hpwr
      obtain ⟨oj, hoj⟩ := Option.isSome_iff_exists.1 (hsome x hx)
      have hpre : ∀ y ∈ pre, Rel2 ops y x ∧ listed.getD y.1 false = false ∧ y ∈ ord := fun y hy => by
        have hyr : y ∈ rem ord listed := by rw [hsplit]; simp [hy]
        obtain ⟨hyo, hyu⟩ := List.mem_filter.1 hyr
        have hyl : y.1 < listed.size := by rw [hid.size]; exact hlt y hyo
        exact ⟨hcross y hy x (by simp), by rw [← getD_tf hyl]; simpa using hyu, hyo⟩
      have hno : ∀ y ∈ pre, ¬ Anc ops x.1 y.1 := fun y hy ha => by
        have := hid.anc ha h3
        rw [(hpre y hy).2.1] at this
        cases this
      have hstep := exch (P := P) (Q := Q .normal) (oj := oj) (tj := x.2) (post := pick ops post) (fun cs b => Region.noSelect_spec hsel x.1 oj cs b hoj) (pick ops pre) a w
        (by
          intro z hz
          obtain ⟨y, hy, hyz⟩ := List.mem_filterMap.1 hz
          obtain ⟨oy, hoy⟩ := Option.isSome_iff_exists.1 (hsome y (hpre y hy).2.2)
          rw [hoy] at hyz
          simp only [Option.map_some, Option.some.injEq] at hyz
          subst hyz
          refine ⟨?_, ?_, fun cs b => Region.noSelect_spec hsel y.1 oy cs b hoy⟩
          · cases hq : y.2 with
            | q => exact Or.inl rfl
            | p => exact Or.inr rfl
            | g => exact absurd ((hpre y hy).1.anc (by rw [hq]; rfl)) (hno y hy)
            | b => exact absurd ((hpre y hy).1.anc (by rw [hq]; rfl)) (hno y hy)
          · rcases (hpre y hy).1.apart with hd | hd
            · exact absurd (.one hd) (hno y hy)
            · unfold apartB at hd
              rw [hoy, hoj] at hd
              exact hd)
        (by
          intro hb z hz
          obtain ⟨y, hy, hyz⟩ := List.mem_filterMap.1 hz
          obtain ⟨oy, hoy⟩ := Option.isSome_iff_exists.1 (hsome y (hpre y hy).2.2)
          rw [hoy] at hyz
          simp only [Option.map_some, Option.some.injEq] at hyz
          subst hyz
          cases hq : y.2 with
          | p => rfl
          | q => exact absurd ((hpre y hy).1.anc (by rw [hq, hb]; rfl)) (hno y hy)
          | g => exact absurd ((hpre y hy).1.anc (by rw [hq]; rfl)) (hno y hy)
          | b => exact absurd ((hpre y hy).1.anc (by rw [hq]; rfl)) (hno y hy))
        (by
          have e : pick ops (rem ord listed) = pick ops pre ++ (oj, x.2) :: pick ops post := by
            rw [hsplit]; unfold pick; simp [List.filterMap_append, hoj]
          rw [← e]; exact h)
      have hrem' : rem ord (listed.setIfInBounds x.1 true) = pre ++ post := by
        have hx1 : x.1 < listed.size := by rw [hid.size]; exact h1
        have e1 : rem ord (listed.setIfInBounds x.1 true) = (rem ord listed).filter fun y => y.1 != x.1 := by
          unfold rem
          rw [List.filter_filter]
          apply List.filter_congr
          intro y hy
          by_cases hyx : x.1 = y.1
          · rw [← hyx]; simp [hx1]
          · have hne : (y.1 != x.1) = true := by simpa using fun h => hyx h.symm
            rw [getD_set_ne true hyx, hne]; simp
        rw [e1, hsplit, List.filter_append, List.filter_cons]
        have hp : pre.filter (fun y => y.1 != x.1) = pre := List.filter_eq_self.2 fun y hy => by simpa using (hpre y hy).1.ne
        have hq : post.filter (fun y => y.1 != x.1) = post := List.filter_eq_self.2 fun y hy => by
          have := (List.pairwise_cons.1 hpc).1 y hy
          simpa using fun e => this.ne e.symm
        rw [hp, hq]; simp
      refine wpOp_of_step hoj ?_
      have hlen : (pre ++ post).length = m := by
        have := hm
        rw [hsplit] at this
        simp at this ⊢
        omega
      have hid' : Ideal ops (listed.setIfInBounds x.1 true) := by
        refine ⟨by simp [hid.size], fun y hy d hd => ?_⟩
        by_cases hxy : x.1 = y
        · subst hxy; exact getD_set_true (h3 d hd)
        · rw [getD_set_ne false hxy] at hy
          exact getD_set_true (hid.closed y hy d hd)
      unfold opStep at hstep ⊢
      have e2 : ∀ v w', wpD P ops (Q .normal) (pick ops pre ++ pick ops post) (a.put oj.dst v) w' → wpAny P .any ops Q m (listed.setIfInBounds x.1 true) (a.put oj.dst v) w' := fun v w' hh =>
        ih _ _ _ (by rw [hrem']; exact hlen) hid' (by rw [hrem']; unfold pick at hh ⊢; rw [List.filterMap_append]; exact hh)
      split at hstep <;> rename_i hw <;> simp only [hw, if_true, if_false, Bool.false_eq_true]
      · exact givesUpon_mono hstep fun v w' hh => e2 v w' hh.2
      · exact e2 _ _ hstep.2

/-- **The rule.** -/
theorem wp_region_ord {id : Nat} {Q : Exit → Act → World → Prop} {a : Act} {w : World} {l : List Oper} (ord : List (Nat × Tag)) (hm : P.follows .mixedOrders = true) (hB : ordB l.toArray ord = true)
    (h : wpD P l.toArray (Q .normal) (pick l.toArray ord) a w.drew) : (Code.region id l.toArray true).wp P Q a w := by
  simp only [ordB, Bool.and_eq_true, beq_iff_eq] at hB
  obtain ⟨⟨⟨hsel, hlen⟩, hcov⟩, hfrom⟩ := hB
  obtain ⟨hpw, _, hsome, htop⟩ := ordFrom_spec ord [] hfrom (fun _ h => by cases h)
  refine wp_region_any hm ?_
  have hall : rem ord (Array.replicate l.toArray.size false) = ord := List.filter_eq_self.2 fun y hy => by
    obtain ⟨o, ho⟩ := Option.isSome_iff_exists.1 (hsome y hy)
    have := (Array.getElem?_eq_some_iff.1 ho).1
    simp at this
    simp [this]
  have hs := ord_sound (P := P) (Q := Q) ord hsel (fun i hi => by
    have := List.all_eq_true.1 hcov i (List.mem_range.2 hi)
    obtain ⟨x, hx, hxi⟩ := List.any_eq_true.1 this
    exact ⟨x, hx, by simpa using hxi⟩) hpw hsome (fun pre y post he d hd => by
      rcases htop pre y post he d hd with ⟨x, hx, _⟩ | hx
      · cases hx
      · exact hx) l.toArray.size (Array.replicate l.toArray.size false) a w.drew (by rw [hall, hlen])
      ⟨by simp, fun y hy => by
        rcases Nat.lt_or_ge y l.toArray.size with h | h
        · simp at h; simp [h] at hy
        · simp at h; simp [h] at hy⟩ (by rw [hall]; exact h)
  exact hs
end
end Go.Proofs.Ytkppijcjmhkkkaa
/- Words for all walks of this seat: slices that read as lists, worlds that only grow, regions that draw their order and only read or lay blocks. -/








namespace Go.Proofs.Ytkppijcjmhkkkaa
open Go.RowKit

theorem wp_region_below {P : Program} {id : Nat} {Q : Exit → Act → World → Prop} {a : Act} {w : World} {l : List Oper} (hm : P.follows .mixedOrders = true) (hB : Region.lexB .any l.toArray = true)
    (h : wpQuiet P l.toArray (fun w' => ∃ p : BelowBy w, w' = p.world) (fun a' => ∀ w', (∃ p : BelowBy w, w' = p.world) → Q .normal a' w') l a) : (Code.region id l.toArray true).wp P Q a w :=
  wp_region_quiet (C := fun w' => ∃ p : BelowBy w, w' = p.world) hm hB ⟨⟨_, (Below.refl _ _).drew⟩, rfl⟩ (by simpa using h)

theorem Calls.below_of {P : Program} {f : FuncId} {args : Array Value} {w : World} {p : BelowBy w} {v : Value}
    (h : Calls P f args p.world fun e w' => e = .returned v ∧ Below p.world.heap.size p.world w') : Calls P f args p.world fun e w'' => e = .returned v ∧ ∃ p' : BelowBy w, w'' = p'.world :=
  h.mono fun _ w' ⟨he, hb⟩ => ⟨he, ⟨⟨w', p.h.trans (hb.mono p.h.size)⟩, rfl⟩⟩

theorem Calls.below_same {P : Program} {f : FuncId} {args : Array Value} {w : World} {p : BelowBy w} {v : Value}
    (h : Calls P f args p.world fun e w' => e = .returned v ∧ p.world = w') : Calls P f args p.world fun e w'' => e = .returned v ∧ ∃ p' : BelowBy w, w'' = p'.world :=
  h.mono fun _ _ ⟨he, hb⟩ => ⟨he, ⟨p, hb.symm⟩⟩

theorem bl_refl (w : World) : Below w.heap.size w w := Below.refl _ _
theorem bl_al {w W : World} (h : Below w.heap.size w W) (o : Obj) : Below w.heap.size w (W.alloc o) := h.alloc h.size o
theorem bl_dr {w W : World} (h : Below w.heap.size w W) : Below w.heap.size w W.drew := h.drew
theorem bl_tr {w W W' : World} (h : Below w.heap.size w W) (k : Below W.heap.size W W') : Below w.heap.size w W' := h.trans (k.mono h.size)
theorem bl_set {w W : World} {p : Addr} (h : Below w.heap.size w W) (hp : w.heap.size ≤ p.block) (u : Value) : Below w.heap.size w (W.setCell p u) := h.setCell hp u

/-- closes by the ways of Below: the tactic stands in the premise's default, so that a text names it in one word (a claim's bytes are counted) -/
theorem bel_ {p : Prop} (h : p := by repeat (first | with_reducible (first | exact bl_refl _ | assumption | refine bl_al ?_ _ | refine bl_dr ?_ | refine bl_tr ?_ (by assumption) | refine bl_set ?_ ?_ _ | exact Nat.le_refl _) | omega | (simp only [World.size_alloc, World.size_setCell, World.size_drew] at *; omega) | (dsimp only; omega) | (simp; done) | (simp; omega))) : p := h
/-- the same for a world that calls and layings alone have made -/
theorem bk_ {p : Prop} (h : p := by repeat (with_reducible first | assumption | exact bl_refl _ | refine bl_al ?_ _ | refine bl_dr ?_)) : p := h
theorem om_ {p : Prop} (h : p := by dsimp only [RowKit.Hid] at *; (try simp only [World.size_alloc, World.size_drew]); omega) : p := h
theorem bcell {W w1 : World} (hb : Below W.heap.size W w1) : (∀ b o, b < W.heap.size → w1.cell? ⟨b, o, none⟩ = W.cell? ⟨b, o, none⟩) ∧ (∀ b o, b < W.heap.size → w1.frozen? ⟨b, o, none⟩ = W.frozen? ⟨b, o, none⟩) ∧
    (∀ b, b < W.heap.size → b < w1.heap.size) ∧ (∀ b, b < W.heap.size → b ≤ w1.heap.size) :=
  ⟨fun b o h => hb.cell (p := ⟨b, o, none⟩) h, fun b o h => hb.frozen (p := ⟨b, o, none⟩) h, fun _ h => Nat.lt_of_lt_of_le h hb.size, fun _ h => Nat.le_of_lt (Nat.lt_of_lt_of_le h hb.size)⟩

/-- The slice value '.slice A n _' has n elements of 'size' cells, and they read as xs. -/
structure RdSl {α : Type} (size : Nat) (R : World → Nat → Nat → α → Prop) (w : World) (A : Option Addr) (n : Nat) (xs : List α) : Prop where
  len : xs.length = n
  cells : 0 < n → ∃ b o, A = some ⟨b, o, none⟩ ∧ b < w.heap.size ∧ ∀ k (h : k < xs.length), R w b (o + k * size) xs[k]

theorem RdSl.ptr {α : Type} {size : Nat} {R : World → Nat → Nat → α → Prop} {w : World} {A : Option Addr} {n : Nat} {xs : List α} (h : RdSl size R w A n xs) (hn : 0 < n) :
    ∃ b o, A = some ⟨b, o, none⟩ ∧ b < w.heap.size ∧ ∀ k e, xs[k]? = some e → R w b (o + k * size) e := by
  obtain ⟨b, o, hA, hb, hc⟩ := h.cells hn
  exact ⟨b, o, hA, hb, fun k e he => by
    obtain ⟨hk, rfl⟩ := List.getElem?_eq_some_iff.1 he
    exact hc k hk⟩
theorem RdSl.get {α : Type} {size : Nat} {R : World → Nat → Nat → α → Prop} {w : World} {A : Option Addr} {n : Nat} {xs : List α} (h : RdSl size R w A n xs) {k : Nat} (hk : k < n) : ∃ e, xs[k]? = some e :=
  ⟨_, List.getElem?_eq_getElem (by rw [h.len]; exact hk)⟩

structure Pl where
  x : Int
  y : Int
  t : Int
  deriving DecidableEq, Inhabited

def RPl (w : World) (b o : Nat) (e : Pl) : Prop := w.cell? ⟨b, o, none⟩ = some (.int .i64 e.x) ∧ w.cell? ⟨b, o + 1, none⟩ = some (.int .i64 e.y) ∧ w.cell? ⟨b, o + 2, none⟩ = some (.int .i64 e.t)

def Stable {α : Type} (R : World → Nat → Nat → α → Prop) : Prop := ∀ w w' b o e, R w b o e → b < w.heap.size → Below w.heap.size w w' → R w' b o e

theorem RPl.stable : Stable RPl := fun _ _ _ _ _ h hb hw =>
  ⟨(hw.cell (by exact hb)).trans h.1, (hw.cell (by exact hb)).trans h.2.1, (hw.cell (by exact hb)).trans h.2.2⟩

theorem RdSl.below {α : Type} {size : Nat} {R : World → Nat → Nat → α → Prop} (hR : Stable R) {w w' : World} {A : Option Addr} {n : Nat} {xs : List α} (h : RdSl size R w A n xs) (hb : Below w.heap.size w w') : RdSl size R w' A n xs :=
  ⟨h.len, fun hn => by
    obtain ⟨b, o, e, hlt, hc⟩ := h.cells hn
    exact ⟨b, o, e, Nat.lt_of_lt_of_le hlt hb.size, fun k hk => hR _ _ _ _ _ (hc k hk) hlt hb⟩⟩

def inB (n lo hi : Int) : Bool := decide (lo ≤ n) && decide (n ≤ hi)
theorem inB_true {n lo hi : Int} : inB n lo hi = true ↔ lo ≤ n ∧ n ≤ hi := by simp [inB]
theorem inB_false {n lo hi : Int} : inB n lo hi = false ↔ ¬ (lo ≤ n ∧ n ≤ hi) := by
  rw [← inB_true]; simp

def validPt (x y : Int) : Bool := inB x (-60) 60 && inB y (-60) 60
def cmpI (a b : Int) : Int := if a < b then -1 else if b < a then 1 else 0
def orI (a b : Int) : Int := if a ≠ 0 then a else b
/-- comparePoints -/
def cmpPt (ax ay bx b_y : Int) : Int := orI (cmpI ay b_y) (cmpI ax bx)
def lessPt (ax ay bx b_y : Int) : Bool := decide (cmpPt ax ay bx b_y < 0)

/-- hasForm's test of place j -/
def okPl (xs : List Pl) (j : Nat) : Bool := match xs[j]? with
  | none => true
  | some e => validPt e.x e.y && inB e.t 0 159 && (match j with
    | 0 => true
    | i + 1 => match xs[i]? with
      | none => true
      | some d => lessPt d.x d.y e.x e.y)
def allB (n : Nat) (p : Nat → Bool) : Bool := (List.range n).all p
theorem allB_true {n : Nat} {p : Nat → Bool} (h : ∀ j, j < n → p j = true) : allB n p = true := by
  simp only [allB, List.all_eq_true, List.mem_range]; exact h
theorem allB_false {n k : Nat} {p : Nat → Bool} (hk : k < n) (h : p k = false) : allB n p = false := by
  cases hh : allB n p with
  | false => rfl
  | true =>
    simp only [allB, List.all_eq_true, List.mem_range] at hh
    rw [hh k hk] at h
    cases h
def hasFormB (xs : List Pl) : Bool := allB xs.length (okPl xs) && decide (xs.length ≤ 500)

theorem ret_eq {a b : Value} (h : a = b) : Ending.returned a = Ending.returned b := by rw [h]
theorem ret_int {k : IntKind} {a b : Int} (h : a = b) : Ending.returned (.int k a) = .returned (.int k b) := by rw [h]
theorem ret_bool {a b : Bool} (h : a = b) : Ending.returned (.bool a) = .returned (.bool b) := by rw [h]
end Go.Proofs.Ytkppijcjmhkkkaa
/- Walks of the least functions: ranges, comparisons of points. -/


namespace Go.Proofs.Ytkppijcjmhkkkaa
open Go.RowKit
attribute [local go_sem] BelowBy.cell BelowBy.cell_drew stillUpon givesUpon
theorem within_any (n lo hi : Int) (w : World) :
    Calls Try.prog 23 #[.int .i64 n, .int .i64 lo, .int .i64 hi] w fun e w' => e = .returned (.bool (inB n lo hi)) ∧ w = w' := by
  by_cases h1 : lo ≤ n
  · by_cases h2 : n ≤ hi
    · go_enter Try.func23, Try.ntmps23
      go_wp2
      go_ret
      exact ⟨ret_bool (inB_true.2 ⟨h1, h2⟩).symm, rfl⟩
    · have h3 : hi < n := by omega
      clear h2
      go_enter Try.func23, Try.ntmps23
      go_wp2
      go_ret
      exact ⟨ret_bool ((decide_eq_false (by omega)).trans (inB_false.2 (by omega)).symm), rfl⟩
  · have h3 : n < lo := by omega
    clear h1
    go_enter Try.func23, Try.ntmps23
    go_wp2
    go_ret
    exact ⟨ret_bool (inB_false.2 (by omega)).symm, rfl⟩

theorem ValidPoint_any (x y : Int) (w : World) :
    Calls Try.prog 62 #[.agg #[.int .i64 x, .int .i64 y]] w fun e w' => e = .returned (.bool (validPt x y)) ∧ Below w.heap.size w w' := by
  have hb := (Below.refl w.heap.size w).alloc (Nat.le_refl _) (.cells #[.int .i64 x, .int .i64 y] 49)
  cases h1 : inB x (-60) 60
  all_goals
    go_enter Try.func62, Try.ntmps62
    go_wp2_with (go_at_call 23; refine (within_any _ _ _ _).mono ?_; rintro e w' ⟨rfl, rfl⟩)
    go_ret
    exact ⟨ret_bool (by simp [validPt, h1]), hb⟩

theorem isNaN_any (n : Int) (w : World) :
    Calls Try.prog 83 #[.int .i64 n] w fun e w' => e = .returned (.bool false) ∧ w = w' := by
  go_enter Try.func83, Try.ntmps83
  go_wp2
  go_ret
  exact ⟨by simp, rfl⟩

theorem Compare_any (a b : Int) (w : World) :
    Calls Try.prog 69 #[.int .i64 a, .int .i64 b] w fun e w' => e = .returned (.int .i64 (cmpI a b)) ∧ w = w' := by
  rcases Int.lt_trichotomy a b with h | h | h
  · go_enter Try.func69, Try.ntmps69
    go_wp2_with (go_at_call 83; refine (isNaN_any _ _).mono ?_; rintro e w' ⟨rfl, rfl⟩)
    go_ret
    exact ⟨ret_int (by simp [cmpI, h]), rfl⟩
  · subst h
    go_enter Try.func69, Try.ntmps69
    go_wp2_with (go_at_call 83; refine (isNaN_any _ _).mono ?_; rintro e w' ⟨rfl, rfl⟩)
    go_ret
    exact ⟨ret_int (by simp [cmpI]), rfl⟩
  · go_enter Try.func69, Try.ntmps69
    go_wp2_with (go_at_call 83; refine (isNaN_any _ _).mono ?_; rintro e w' ⟨rfl, rfl⟩)
    go_ret
    exact ⟨ret_int (by simp only [cmpI]; rw [if_neg (by omega), if_pos h]), rfl⟩

theorem Or_any (a b : Int) (bl o : Nat) (c : Nat) (w : World) (h0 : w.cell? ⟨bl, o, none⟩ = some (.int .i64 a)) (h1 : w.cell? ⟨bl, o + 1, none⟩ = some (.int .i64 b)) :
    Calls Try.prog 68 #[.slice (some ⟨bl, o, none⟩) 2 c] w fun e w' => e = .returned (.int .i64 (orI a b)) ∧ w = w' := by
  by_cases ha : a = 0
  · subst ha
    by_cases hb : b = 0
    · subst hb
      go_enter Try.func68, Try.ntmps68
      go_wp2
      refine wp_loop_rounds 3 ?_
      rw [rounds_succ]
      go_wp2
      rw [rounds_succ]
      go_wp2
      rw [rounds_succ]
      go_wp2
      go_ret
      exact ⟨ret_int (by simp [orI]), rfl⟩
    · have hb' : (b != 0) = true := by simpa using hb
      go_enter Try.func68, Try.ntmps68
      go_wp2
      refine wp_loop_rounds 3 ?_
      rw [rounds_succ]
      go_wp2
      rw [rounds_succ]
      go_wp2
      go_ret
      exact ⟨ret_int (by simp [orI]), rfl⟩
  · have ha' : (a != 0) = true := by simpa using ha
    go_enter Try.func68, Try.ntmps68
    go_wp2
    refine wp_loop_rounds 3 ?_
    rw [rounds_succ]
    go_wp2
    go_ret
    exact ⟨ret_int (by simp [orI, ha]), rfl⟩

theorem comparePoints_any (ax ay bx b_y : Int) (w : World) :
    Calls Try.prog 49 #[.agg #[.int .i64 ax, .int .i64 ay], .agg #[.int .i64 bx, .int .i64 b_y]] w fun e w' => e = .returned (.int .i64 (cmpPt ax ay bx b_y)) ∧ Below w.heap.size w w' := by
  go_enter Try.func49, Try.ntmps49
  go_wp2
  refine wp_region_ord [(0, .q), (1, .q), (2, .q), (3, .q), (5, .q), (6, .q), (7, .q), (8, .q), (4, .g), (9, .g), (10, .g), (11, .g), (12, .q)] (by kernel_rfl) (by kernel_rfl) ?_
  simp only [pick, List.filterMap_cons, List.filterMap_nil, List.getElem?_toArray, List.getElem?_cons_zero, List.getElem?_cons_succ, Option.map_some]
  repeat (first | ((with_reducible refine wpD_p (fun K hK => ?_)); go_simp; refine hK _ ?_; clear hK K) | ((with_reducible refine wpD_q (fun K hK => ?_)); go_simp; (first | refine hK _ ?_ | (go_bits; refine hK _ ?_) | (go_bits; go_simp; refine hK _ ?_)); clear hK K))
  with_reducible refine wpD_g (fun K hK => ?_)
  go_simp
  refine (Compare_any _ _ _).mono ?_
  rintro e _ ⟨rfl, rfl⟩
  refine ⟨_, rfl, Below.refl _ _, hK _ _ ?_⟩
  clear hK K
  with_reducible refine wpD_g (fun K hK => ?_)
  go_simp
  refine (Compare_any _ _ _).mono ?_
  rintro e _ ⟨rfl, rfl⟩
  refine ⟨_, rfl, Below.refl _ _, hK _ _ ?_⟩
  clear hK K
  with_reducible refine wpD_g (fun K hK => ?_)
  go_simp
  refine ⟨Grew.of_alloc _, hK _ _ ?_⟩
  clear hK K
  with_reducible refine wpD_g (fun K hK => ?_)
  go_simp
  refine (Or_any (cmpI ay b_y) (cmpI ax bx) _ _ _ _ (by go_simp) (by go_simp)).mono ?_
  rintro e _ ⟨rfl, rfl⟩
  refine ⟨_, rfl, Below.refl _ _, hK _ _ ?_⟩
  clear hK K
  repeat (first | ((with_reducible refine wpD_p (fun K hK => ?_)); go_simp; refine hK _ ?_; clear hK K) | ((with_reducible refine wpD_q (fun K hK => ?_)); go_simp; (first | refine hK _ ?_ | (go_bits; refine hK _ ?_) | (go_bits; go_simp; refine hK _ ?_)); clear hK K))
  with_reducible refine wpD_nil ?_
  go_wp2
  go_ret
  refine ⟨rfl, ?_⟩
  exact bel_
theorem LessPoint_any (ax ay bx b_y : Int) (w : World) :
    Calls Try.prog 63 #[.agg #[.int .i64 ax, .int .i64 ay], .agg #[.int .i64 bx, .int .i64 b_y]] w fun e w' => e = .returned (.bool (lessPt ax ay bx b_y)) ∧ Below w.heap.size w w' := by
  go_enter Try.func63, Try.ntmps63
  go_wp2_with (go_at_call 49; refine (comparePoints_any _ _ _ _ _).mono ?_; rintro e w1 ⟨rfl, hb1⟩; obtain ⟨chb1, fhb1, shb1, thb1⟩ := bcell hb1)
  go_ret
  refine ⟨rfl, ?_⟩
  exact bel_
end Go.Proofs.Ytkppijcjmhkkkaa
