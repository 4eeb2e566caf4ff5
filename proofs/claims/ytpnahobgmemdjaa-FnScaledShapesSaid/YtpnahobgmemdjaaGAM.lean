import Derived.Test.YtpnahobgmemdjaaGAA
import Derived.Laws.AppendOwn
import Derived.OwnWalk
import Derived.Maps.AppendAt
import Derived.Test.YtpnahobgmemdjaaGAL
import Derived.Test.YtpnahobgmemdjaaGAD
import Derived.Test.YtpnahobgmemdjaaGAG
set_option linter.unusedSimpArgs false
set_option linter.unusedVariables false
/- The rule for regions that draw their order: an append on a row of the call's own. -/



namespace Go.Proofs.Ytpnahobgmemdjaa
open Go.RowKit
section
variable {P : Program} {ops : Array Oper}
theorem wpD_append {o : Oper} {rest : List (Oper × Tag)} {a : Act} {w : World} {Q : Act → World → Prop} (hgd : o.guard = none) (s x : Operand) (t : TypeId)
    (ho : o.op = .call { callee := .builtin .append, args := #[s, x], argTypes := #[t, t] })
    (base : Nat) (e : TypeId) (i : TypeInfo) (z : Value) (size bytes : Nat) (ht : P.underlying t = some (.slice e)) (hi : P.info? e = some i) (hz : i.zero = some z)
    (hsize : i.size = size) (hby : i.bytes = bytes) (hzs : z.cells.size = size) (hsz : 0 < size)
    (v : Value) (n : Nat) (xs : List Value) (hs : a.eval s = v) (hown : w.ownsRow base e size v n xs)
    (ad : Addr) (m c : Nat) (news : List Value) (hx : a.eval x = .slice (some ad) m c) (hl : news.length = m * size) (hnews : ∀ j u, news[j]? = some u → w.cell? (ad.add j) = some u) (h1 : ∀ u ∈ news, u.oneCell' = true)
    (h63 : n + m ≤ maxLen) (hbytes : (n + m) * bytes ≤ 140737488355328) (hbase : base ≤ w.heap.size)
    (h : ∀ v' w', w'.ownsRow base e size v' (n + m) (xs ++ news) → w.grownBy w' v.ownBlock → wpD P ops Q rest (a.put o.dst v') w') : wpD P ops Q ((o, .b) :: rest) a w := by
  refine wpD_b fun K hK => ?_
  have hw : Region.wanted o (yielded ops a.tmps) = true := by simp [Region.wanted, hgd]
  rw [if_pos hw]
  obtain ⟨v', w', hrun, h2, h3, _⟩ := run_append_own (P := P) w base t o.type e i z size bytes ht hi hz hsize hby hzs hsz v n xs hown ad m c news hl hnews h1 h63 hbytes hbase
  unfold execOp
  simp only [ho, resolve, invoke, builtin, Sem.run_bind, Sem.run_pure, Result.andThen_ok, List.map_toArray, List.map_cons, List.map_nil, hs, hx, hrun]
  exact hK _ _ (h v' w' h2 h3)
end
end Go.Proofs.Ytpnahobgmemdjaa
/- A rule for regions that draw their order, with one row of the call's own that an append grows: the other operations read only what an append leaves alone. -/


namespace Go.Proofs.Ytpnahobgmemdjaa
open Go.RowKit
theorem gby_refl (w : World) (row : Option Nat) : w.grownBy w row := ⟨rfl, rfl, rfl, Nat.le_refl _, fun _ _ _ => rfl⟩
theorem gby_trans {w w1 w2 : World} {row : Option Nat} (h : w.grownBy w1 row) (h2 : w1.grownBy w2 row) : w.grownBy w2 row :=
  ⟨h2.os.trans h.os, h2.tape.trans h.tape, h2.output.trans h.output, Nat.le_trans h.size h2.size, fun k hk hne => (h2.block k (Nat.lt_of_lt_of_le hk h.size) hne).trans (h.block k hk hne)⟩
/-- A world that is w below w's heap, but for one block. -/
structure ByR (row : Option Nat) (w : World) where
  world : World
  h : w.grownBy world row
instance (row : Option Nat) (w : World) : Inhabited (ByR row w) := ⟨⟨w, gby_refl _ _⟩⟩
theorem ByR.cell {row : Option Nat} {W : World} (p : ByR row W) (b o : Nat) (h : b < W.heap.size) (hr : ¬ some b = row) : p.world.cell? ⟨b, o, none⟩ = W.cell? ⟨b, o, none⟩ := World.cell?_of_block (w := W) (a := ⟨b, o, none⟩) (p.h.block b h hr)
theorem ByR.cell_drew {row : Option Nat} {W : World} (p : ByR row W.drew) (b o : Nat) (h : b < W.heap.size) (hr : ¬ some b = row) : p.world.cell? ⟨b, o, none⟩ = W.cell? ⟨b, o, none⟩ := p.cell b o h hr
section
variable {P : Program} {ops : Array Oper} {row : Option Nat}

def wpR (P : Program) (ops : Array Oper) (row : Option Nat) (Q : Act → World → Prop) : List (Oper × Tag) → Act → World → Prop
  | [], a, w => Q a w
  | (o, .q) :: rest, a, w =>
    if Region.wanted o (yielded ops a.tmps) then ∃ v, (∀ p : ByR row w, stillUpon p.world v ((execOp a.eval o).run P p.world)) ∧ wpR P ops row Q rest (a.put o.dst v) w
    else wpR P ops row Q rest (a.put o.dst undef) w
  | (o, .g) :: rest, a, w =>
    if Region.wanted o (yielded ops a.tmps) then givesUpon P (fun v w' => w.grownBy w' row ∧ wpR P ops row Q rest (a.put o.dst v) w') ((execOp a.eval o).run P w)
    else wpR P ops row Q rest (a.put o.dst undef) w
  | (o, .b) :: rest, a, w =>
    if Region.wanted o (yielded ops a.tmps) then givesUpon P (fun v w' => wpR P ops row Q rest (a.put o.dst v) w') ((execOp a.eval o).run P w)
    else wpR P ops row Q rest (a.put o.dst undef) w
  | (o, .p) :: rest, a, w =>
    if Region.wanted o (yielded ops a.tmps) then ∃ v, (∀ W : World, stillUpon W v ((execOp a.eval o).run P W)) ∧ wpR P ops row Q rest (a.put o.dst v) w
    else wpR P ops row Q rest (a.put o.dst undef) w

/-- Behind a name that simp does not open. -/
def GrewR (row : Option Nat) (w w' : World) : Prop := w.grownBy w' row
theorem GrewR.of_alloc {row : Option Nat} {w : World} (o : Obj) : GrewR row w (w.alloc o) := World.grownBy_alloc w o row

/-- One operation at a time, what follows behind a variable. -/
theorem wpR_q {Q : Act → World → Prop} {o : Oper} {rest : List (Oper × Tag)} {a : Act} {w : World}
    (h : ∀ K : Act → Prop, (∀ a, wpR P ops row Q rest a w → K a) → if Region.wanted o (yielded ops a.tmps) then ∃ v, (∀ p : ByR row w, stillUpon p.world v ((execOp a.eval o).run P p.world)) ∧ K (a.put o.dst v) else K (a.put o.dst undef)) :
    wpR P ops row Q ((o, .q) :: rest) a w := h _ fun _ h => h
theorem wpR_g {Q : Act → World → Prop} {o : Oper} {rest : List (Oper × Tag)} {a : Act} {w : World}
    (h : ∀ K : Act → World → Prop, (∀ a w', wpR P ops row Q rest a w' → K a w') → if Region.wanted o (yielded ops a.tmps) then givesUpon P (fun v w' => GrewR row w w' ∧ K (a.put o.dst v) w') ((execOp a.eval o).run P w) else K (a.put o.dst undef) w) :
    wpR P ops row Q ((o, .g) :: rest) a w := h _ fun _ _ h => h
theorem wpR_b {Q : Act → World → Prop} {o : Oper} {rest : List (Oper × Tag)} {a : Act} {w : World}
    (h : ∀ K : Act → World → Prop, (∀ a w', wpR P ops row Q rest a w' → K a w') → if Region.wanted o (yielded ops a.tmps) then givesUpon P (fun v w' => K (a.put o.dst v) w') ((execOp a.eval o).run P w) else K (a.put o.dst undef) w) :
    wpR P ops row Q ((o, .b) :: rest) a w := h _ fun _ _ h => h
theorem wpR_p {Q : Act → World → Prop} {o : Oper} {rest : List (Oper × Tag)} {a : Act} {w : World}
    (h : ∀ K : Act → Prop, (∀ a, wpR P ops row Q rest a w → K a) → if Region.wanted o (yielded ops a.tmps) then ∃ v, (∀ W : World, stillUpon W v ((execOp a.eval o).run P W)) ∧ K (a.put o.dst v) else K (a.put o.dst undef)) :
    wpR P ops row Q ((o, .p) :: rest) a w := h _ fun _ h => h
theorem wpR_nil {Q : Act → World → Prop} {a : Act} {w : World} (h : Q a w) : wpR P ops row Q [] a w := h

theorem exchR {Q : Act → World → Prop} {oj : Oper} {tj : Tag} {post : List (Oper × Tag)} (hsj : ∀ cs b, oj.op ≠ .select cs b) : ∀ (pre : List (Oper × Tag)) (a : Act) (w : World),
    (∀ x ∈ pre, (x.2 = .q ∨ x.2 = .p) ∧ x.1.apart ops oj = true ∧ ∀ cs b, x.1.op ≠ .select cs b) → (tj = .b → ∀ x ∈ pre, x.2 = .p) → wpR P ops row Q (pre ++ (oj, tj) :: post) a w →
    opStep P ops oj (fun v w' => (tj ≠ .b → w.grownBy w' row) ∧ wpR P ops row Q (pre ++ post) (a.put oj.dst v) w') a w
  | [], a, w, _, _, h => by
    unfold opStep
    simp only [List.nil_append] at h ⊢
    cases tj <;> simp only [wpR] at h <;> split at h <;> rename_i hw <;> simp only [hw, if_true, if_false, Bool.false_eq_true]
    · obtain ⟨v, h1, h2⟩ := h
      exact givesUpon_of_still (h1 ⟨w, gby_refl _ _⟩) ⟨fun _ => gby_refl _ _, h2⟩
    · exact ⟨fun _ => gby_refl _ _, h⟩
    · exact givesUpon_mono h fun v w' hh => ⟨fun _ => hh.1, hh.2⟩
    · exact ⟨fun _ => gby_refl _ _, h⟩
    · exact givesUpon_mono h fun v w' hh => ⟨fun hn => absurd rfl hn, hh⟩
    · exact ⟨fun _ => gby_refl _ _, h⟩
    · obtain ⟨v, h1, h2⟩ := h
      exact givesUpon_of_still (h1 w) ⟨fun _ => gby_refl _ _, h2⟩
    · exact ⟨fun _ => gby_refl _ _, h⟩
  | (op, t) :: pre, a, w, hp, hb, h => by
    obtain ⟨ht, hap, hsp⟩ := hp (op, t) (by simp)
    simp only at ht hap hsp
    obtain ⟨h1, h2, h3⟩ := Oper.apart_spec hap
    have hp' : ∀ x ∈ pre, (x.2 = .q ∨ x.2 = .p) ∧ x.1.apart ops oj = true ∧ ∀ cs b, x.1.op ≠ .select cs b := fun x hx => hp x (by simp [hx])
    have hb' : tj = .b → ∀ x ∈ pre, x.2 = .p := fun e x hx => hb e x (by simp [hx])
    have key : ∀ v, (∀ w', (tj ≠ .b → w.grownBy w' row) → ∀ u, wpR P ops row Q (pre ++ post) ((a.put oj.dst u).put op.dst v) w' → wpR P ops row Q ((op, t) :: (pre ++ post)) (a.put oj.dst u) w') →
        wpR P ops row Q (pre ++ (oj, tj) :: post) (a.put op.dst v) w → opStep P ops oj (fun v w' => (tj ≠ .b → w.grownBy w' row) ∧ wpR P ops row Q ((op, t) :: pre ++ post) (a.put oj.dst v) w') a w := by
      intro v hk hh
      have ih := exchR hsj pre (a.put op.dst v) w hp' hb' hh
      unfold opStep at ih ⊢
      rw [wanted_put oj a op.dst v h1, execOp_put oj hsj a op.dst v h1] at ih
      split at ih <;> rename_i hw <;> simp only [hw, if_true, if_false, Bool.false_eq_true]
      · refine givesUpon_mono ih fun u w' hh' => ⟨hh'.1, hk w' hh'.1 u ?_⟩
        rw [← Act.put_comm a v u h2]; exact hh'.2
      · refine ⟨ih.1, hk w (fun _ => gby_refl _ _) undef ?_⟩
        rw [← Act.put_comm a v undef h2]; exact ih.2
    rcases ht with rfl | rfl
    · have hnb : tj ≠ .b := fun e => by have := hb e (op, .q) (by simp); cases this
      simp only [List.cons_append, wpR] at h
      split at h
      · rename_i hw
        obtain ⟨v, hv, hrest⟩ := h
        refine key v (fun w' hbw u hr => ?_) hrest
        have hbw := hbw hnb
        simp only [wpR]
        rw [wanted_put op a oj.dst u h3, if_pos hw, execOp_put op hsp a oj.dst u h3]
        exact ⟨v, fun p => hv ⟨p.world, gby_trans hbw p.h⟩, hr⟩
      · rename_i hw
        refine key undef (fun w' hbw u hr => ?_) h
        simp only [wpR]
        rw [wanted_put op a oj.dst u h3, if_neg hw]
        exact hr
    · simp only [List.cons_append, wpR] at h
      split at h
      · rename_i hw
        obtain ⟨v, hv, hrest⟩ := h
        refine key v (fun w' hbw u hr => ?_) hrest
        simp only [wpR]
        rw [wanted_put op a oj.dst u h3, if_pos hw, execOp_put op hsp a oj.dst u h3]
        exact ⟨v, hv, hr⟩
      · rename_i hw
        refine key undef (fun w' hbw u hr => ?_) h
        simp only [wpR]
        rw [wanted_put op a oj.dst u h3, if_neg hw]
        exact hr

theorem ord_soundR {Q : Exit → Act → World → Prop} (ord : List (Nat × Tag)) (hsel : Region.noSelect ops = true) (hcov : ∀ i, i < ops.size → ∃ x ∈ ord, x.1 = i)
    (hpw : ord.Pairwise (Rel2 ops)) (hsome : ∀ y ∈ ord, (ops[y.1]?).isSome = true) (htop : ∀ pre y post, ord = pre ++ y :: post → ∀ d ∈ depsOf ops y.1, ∃ x ∈ pre, x.1 = d) :
    ∀ (m : Nat) (listed : Array Bool) (a : Act) (w : World), (rem ord listed).length = m → Ideal ops listed → wpR P ops row (Q .normal) (pick ops (rem ord listed)) a w → wpAny P .any ops Q m listed a w := by
  have hlt : ∀ y ∈ ord, y.1 < ops.size := fun y hy => by
    have := hsome y hy
    rw [Option.isSome_iff_exists] at this
    obtain ⟨o, ho⟩ := this
    exact (Array.getElem?_eq_some_iff.1 ho).1
  intro m
  induction m with
  | zero =>
    intro listed a w hm hid h
    have hnil : rem ord listed = [] := List.eq_nil_of_length_eq_zero hm
    refine ⟨?_, by rw [hnil] at h; exact h⟩
    apply List.eq_nil_iff_forall_not_mem.2
    intro j hj
    obtain ⟨h1, h2, _⟩ := ready_deps hj
    obtain ⟨x, hx, rfl⟩ := hcov j h1
    have : x ∈ rem ord listed := List.mem_filter.2 ⟨hx, by simpa using h2⟩
    rw [hnil] at this
    cases this
  | succ m ih =>
    intro listed a w hm hid h
    refine ⟨fun h0 => ?_, fun j hj => ?_⟩
    · -- the first that has not come up is ready
      exfalso
      obtain ⟨y, rest, hrem⟩ : ∃ y rest, rem ord listed = y :: rest := by
        cases hr : rem ord listed with
        | nil => rw [hr] at hm; cases hm
        | cons y rest => exact ⟨y, rest, rfl⟩
      obtain ⟨pre, post, hord, hpre⟩ := List.filter_eq_cons_iff.1 hrem
      have hy : y ∈ ord := by rw [hord]; simp
      obtain ⟨o, ho⟩ := Option.isSome_iff_exists.1 (hsome y hy)
      have hun : listed.getD y.1 true = false := by
        have : y ∈ rem ord listed := by rw [hrem]; simp
        simpa using (List.mem_filter.1 this).2
      have : y.1 ∈ Region.ready .any ops listed := ready_of ho hun fun d hd => by
        obtain ⟨x, hx, rfl⟩ := htop pre y post hord d hd
        have h1 := hpre.1 x hx
        have hxl : x.1 < listed.size := by rw [hid.size]; exact hlt x (by rw [hord]; simp [hx])
        rw [← getD_tf hxl]
        simpa using h1
      rw [h0] at this
      cases this
    · obtain ⟨h1, h2, h3⟩ := ready_deps hj
      obtain ⟨x, hx, rfl⟩ := hcov j h1
      have hxr : x ∈ rem ord listed := List.mem_filter.2 ⟨hx, by simpa using h2⟩
      obtain ⟨pre, post, hsplit⟩ := List.append_of_mem hxr
      have hpwr : (rem ord listed).Pairwise (Rel2 ops) := hpw.filter _
      rw [hsplit, List.pairwise_append] at hpwr
      obtain ⟨_, hpc, hcross⟩ := hpwr
      obtain ⟨oj, hoj⟩ := Option.isSome_iff_exists.1 (hsome x hx)
      have hpre : ∀ y ∈ pre, Rel2 ops y x ∧ listed.getD y.1 false = false ∧ y ∈ ord := fun y hy => by
        have hyr : y ∈ rem ord listed := by rw [hsplit]; simp [hy]
        obtain ⟨hyo, hyu⟩ := List.mem_filter.1 hyr
        have hyl : y.1 < listed.size := by rw [hid.size]; exact hlt y hyo
        exact ⟨hcross y hy x (by simp), by rw [← getD_tf hyl]; simpa using hyu, hyo⟩
      have hno : ∀ y ∈ pre, ¬ Anc ops x.1 y.1 := fun y hy ha => by
        have := hid.anc ha h3
        rw [(hpre y hy).2.1] at this
        cases this
      have hstep := exchR (row := row) (P := P) (Q := Q .normal) (oj := oj) (tj := x.2) (post := pick ops post) (fun cs b => Region.noSelect_spec hsel x.1 oj cs b hoj) (pick ops pre) a w
        (by
          intro z hz
          obtain ⟨y, hy, hyz⟩ := List.mem_filterMap.1 hz
          obtain ⟨oy, hoy⟩ := Option.isSome_iff_exists.1 (hsome y (hpre y hy).2.2)
          rw [hoy] at hyz
          simp only [Option.map_some, Option.some.injEq] at hyz
          subst hyz
          refine ⟨?_, ?_, fun cs b => Region.noSelect_spec hsel y.1 oy cs b hoy⟩
          · cases hq : y.2 with
            | q => exact Or.inl rfl
            | p => exact Or.inr rfl
            | g => exact absurd ((hpre y hy).1.anc (by rw [hq]; rfl)) (hno y hy)
            | b => exact absurd ((hpre y hy).1.anc (by rw [hq]; rfl)) (hno y hy)
          · rcases (hpre y hy).1.apart with hd | hd
            · exact absurd (.one hd) (hno y hy)
            · unfold apartB at hd
              rw [hoy, hoj] at hd
              exact hd)
        (by
          intro hb z hz
          obtain ⟨y, hy, hyz⟩ := List.mem_filterMap.1 hz
          obtain ⟨oy, hoy⟩ := Option.isSome_iff_exists.1 (hsome y (hpre y hy).2.2)
          rw [hoy] at hyz
          simp only [Option.map_some, Option.some.injEq] at hyz
          subst hyz
          cases hq : y.2 with
          | p => rfl
          | q => exact absurd ((hpre y hy).1.anc (by rw [hq, hb]; rfl)) (hno y hy)
          | g => exact absurd ((hpre y hy).1.anc (by rw [hq]; rfl)) (hno y hy)
          | b => exact absurd ((hpre y hy).1.anc (by rw [hq]; rfl)) (hno y hy))
        (by
          have e : pick ops (rem ord listed) = pick ops pre ++ (oj, x.2) :: pick ops post := by
            rw [hsplit]; unfold pick; simp [List.filterMap_append, hoj]
          rw [← e]; exact h)
      have hrem' : rem ord (listed.setIfInBounds x.1 true) = pre ++ post := by
        have hx1 : x.1 < listed.size := by rw [hid.size]; exact h1
        have e1 : rem ord (listed.setIfInBounds x.1 true) = (rem ord listed).filter fun y => y.1 != x.1 := by
          unfold rem
          rw [List.filter_filter]
          apply List.filter_congr
          intro y hy
          by_cases hyx : x.1 = y.1
          · rw [← hyx]; simp [hx1]
          · have hne : (y.1 != x.1) = true := by simpa using fun h => hyx h.symm
            rw [getD_set_ne true hyx, hne]; simp
        rw [e1, hsplit, List.filter_append, List.filter_cons]
        have hp : pre.filter (fun y => y.1 != x.1) = pre := List.filter_eq_self.2 fun y hy => by simpa using (hpre y hy).1.ne
        have hq : post.filter (fun y => y.1 != x.1) = post := List.filter_eq_self.2 fun y hy => by
          have := (List.pairwise_cons.1 hpc).1 y hy
          simpa using fun e => this.ne e.symm
        rw [hp, hq]; simp
      refine wpOp_of_step hoj ?_
      have hlen : (pre ++ post).length = m := by
        have := hm
        rw [hsplit] at this
        simp at this ⊢
        omega
      have hid' : Ideal ops (listed.setIfInBounds x.1 true) := by
        refine ⟨by simp [hid.size], fun y hy d hd => ?_⟩
        by_cases hxy : x.1 = y
        · subst hxy; exact getD_set_true (h3 d hd)
        · rw [getD_set_ne false hxy] at hy
          exact getD_set_true (hid.closed y hy d hd)
      unfold opStep at hstep ⊢
      have e2 : ∀ v w', wpR P ops row (Q .normal) (pick ops pre ++ pick ops post) (a.put oj.dst v) w' → wpAny P .any ops Q m (listed.setIfInBounds x.1 true) (a.put oj.dst v) w' := fun v w' hh =>
        ih _ _ _ (by rw [hrem']; exact hlen) hid' (by rw [hrem']; unfold pick at hh ⊢; rw [List.filterMap_append]; exact hh)
      split at hstep <;> rename_i hw <;> simp only [hw, if_true, if_false, Bool.false_eq_true]
      · exact givesUpon_mono hstep fun v w' hh => e2 v w' hh.2
      · exact e2 _ _ hstep.2

/-- **The rule.** -/
theorem wp_region_row (row : Option Nat) {id : Nat} {Q : Exit → Act → World → Prop} {a : Act} {w : World} {l : List Oper} (ord : List (Nat × Tag)) (hm : P.follows .mixedOrders = true) (hB : ordB l.toArray ord = true)
    (h : wpR P l.toArray row (Q .normal) (pick l.toArray ord) a w.drew) : (Code.region id l.toArray true).wp P Q a w := by
  simp only [ordB, Bool.and_eq_true, beq_iff_eq] at hB
  obtain ⟨⟨⟨hsel, hlen⟩, hcov⟩, hfrom⟩ := hB
  obtain ⟨hpw, _, hsome, htop⟩ := ordFrom_spec ord [] hfrom (fun _ h => by cases h)
  refine wp_region_any hm ?_
  have hall : rem ord (Array.replicate l.toArray.size false) = ord := List.filter_eq_self.2 fun y hy => by
    obtain ⟨o, ho⟩ := Option.isSome_iff_exists.1 (hsome y hy)
    have := (Array.getElem?_eq_some_iff.1 ho).1
    simp at this
    simp [this]
  have hs := ord_soundR (row := row) (P := P) (Q := Q) ord hsel (fun i hi => by
    have := List.all_eq_true.1 hcov i (List.mem_range.2 hi)
    obtain ⟨x, hx, hxi⟩ := List.any_eq_true.1 this
    exact ⟨x, hx, by simpa using hxi⟩) hpw hsome (fun pre y post he d hd => by
      rcases htop pre y post he d hd with ⟨x, hx, _⟩ | hx
      · cases hx
      · exact hx) l.toArray.size (Array.replicate l.toArray.size false) a w.drew (by rw [hall, hlen])
      ⟨by simp, fun y hy => by
        rcases Nat.lt_or_ge y l.toArray.size with h | h
        · simp at h; simp [h] at hy
        · simp at h; simp [h] at hy⟩ (by rw [hall]; exact h)
  exact hs

theorem wpR_append_at {o : Oper} {rest : List (Oper × Tag)} {a : Act} {w : World} {row : Option Nat} {Q : Act → World → Prop} (hgd : o.guard = none) (s x : Operand) (t : TypeId)
    (ho : o.op = .call { callee := .builtin .append, args := #[s, x], argTypes := #[t, t] })
    (base : Nat) (e : TypeId) (i : TypeInfo) (z : Value) (size bytes : Nat) (ht : P.underlying t = some (.slice e)) (hi : P.info? e = some i) (hz : i.zero = some z)
    (hsize : i.size = size) (hby : i.bytes = bytes) (hzs : z.cells.size = size) (hsz : 0 < size)
    (v : Value) (n : Nat) (xs : List Value) (hs : a.eval s = v) (hown : w.ownsRow base e size v n xs) (hrow : v.ownBlock = row)
    (ad : Addr) (m c : Nat) (news : List Value) (hx : a.eval x = .slice (some ad) m c) (hl : news.length = m * size) (hnews : ∀ j u, news[j]? = some u → w.cell? (ad.add j) = some u) (h1 : ∀ u ∈ news, u.oneCell' = true)
    (h63 : n + m ≤ maxLen) (hbytes : (n + m) * bytes ≤ 140737488355328) (hbase : base ≤ w.heap.size)
    (h : ∀ v' w', w'.ownsRow base e size v' (n + m) (xs ++ news) → w.grownBy w' v.ownBlock → (v'.ownBlock = v.ownBlock ∨ v'.ownBlock = some w.heap.size) → wpR P ops row Q rest (a.put o.dst v') w') : wpR P ops row Q ((o, .g) :: rest) a w := by
  refine wpR_g fun K hK => ?_
  have hw : Region.wanted o (yielded ops a.tmps) = true := by simp [Region.wanted, hgd]
  rw [if_pos hw]
  obtain ⟨v', w', hrun, h2, h3, _, h4⟩ := run_append_own_at (P := P) w base t o.type e i z size bytes ht hi hz hsize hby hzs hsz v n xs hown ad m c news hl hnews h1 h63 hbytes hbase
  unfold execOp
  simp only [ho, resolve, invoke, builtin, Sem.run_bind, Sem.run_pure, Result.andThen_ok, List.map_toArray, List.map_cons, List.map_nil, hs, hx, hrun]
  exact ⟨hrow ▸ h3, hK _ _ (h v' w' h2 h3 h4)⟩
end
end Go.Proofs.Ytpnahobgmemdjaa
/- Walks: the reference's connected parts, by places. -/




namespace Go.Proofs.Ytpnahobgmemdjaa
open Go.RowKit Go.Shelf
attribute [local go_sem] BelowBy.cell BelowBy.cell_drew stillUpon givesUpon ByR.cell ByR.cell_drew

section
variable {nb : Nat → Nat → Option Nat} {n : Nat}
theorem visS_more {c : Nat} {st : List Nat × List Nat} : ∀ k, ∃ l, (visS nb c st k).1 = st.1 ++ l
  | 0 => ⟨[], by simp [visS]⟩
  | k + 1 => by
    obtain ⟨l, hl⟩ := visS_more (c := c) (st := st) k
    obtain ⟨m, hm⟩ := vis4_grow (nb := nb) (c := c) (st := visS nb c st k) k 4
    exact ⟨l ++ m, by simp only [visS]; rw [hm, hl, List.append_assoc]⟩
theorem allP_rng : ∀ (i v q : Nat), (allP nb n i).1[v]? = some q → q ≤ (allP nb n i).2.length
  | 0, v, q, h => by
    simp only [allP] at h ⊢
    have := List.mem_of_getElem? h
    rw [List.mem_replicate] at this
    omega
  | i + 1, v, q, h => by
    have ih := allP_rng i v
    by_cases h0 : (allP nb n i).1[i]? = some 0
    · obtain ⟨h1, h2⟩ := allP_yes (nb := nb) (n := n) (i := i) rfl rfl h0 rfl
      rw [h1] at h
      rw [h2, List.length_append]
      have hV := (VisInv.start (n := n) (Nat.succ_ne_zero (allP nb n i).2.length) (allP_len nb n i) h0).all (nb := nb) n
      by_cases hm : v ∈ (visS nb ((allP nb n i).2.length + 1) ([i], (allP nb n i).1.set i ((allP nb n i).2.length + 1)) n).1
      · have := hV.is v hm
        rw [h] at this
        injection this with this
        simp; omega
      · rw [hV.other v hm] at h
        have := ih q h
        simp; omega
    · rw [allP_no h0] at h ⊢
      exact ih q h
theorem allP_done : ∀ (i v : Nat), v < i → (allP nb n i).1[v]? ≠ some 0
  | 0, v, h => by omega
  | i + 1, v, h => by
    have ih := allP_done i v
    by_cases h0 : (allP nb n i).1[i]? = some 0
    · obtain ⟨h1, h2⟩ := allP_yes (nb := nb) (n := n) (i := i) rfl rfl h0 rfl
      rw [h1]
      have hV := (VisInv.start (n := n) (Nat.succ_ne_zero (allP nb n i).2.length) (allP_len nb n i) h0).all (nb := nb) n
      by_cases hm : v ∈ (visS nb ((allP nb n i).2.length + 1) ([i], (allP nb n i).1.set i ((allP nb n i).2.length + 1)) n).1
      · rw [hV.is v hm]
        intro hh
        injection hh with hh
        omega
      · rw [hV.other v hm]
        rcases Nat.lt_or_ge v i with hlt | hge
        · exact ih hlt
        · exfalso
          obtain rfl : v = i := by omega
          obtain ⟨l, hl⟩ := visS_more (nb := nb) (c := (allP nb n v).2.length + 1) (st := ([v], (allP nb n v).1.set v ((allP nb n v).2.length + 1))) n
          rw [hl] at hm
          simp at hm
    · rw [allP_no h0]
      rcases Nat.lt_or_ge v i with hlt | hge
      · exact ih hlt
      · obtain rfl : v = i := by omega
        exact h0
theorem allP_named {v : Nat} (hv : v < n) : ∃ q, (allP nb n n).1[v]? = some (q + 1) ∧ q < (allP nb n n).2.length := by
  obtain ⟨q, hq⟩ : ∃ q, (allP nb n n).1[v]? = some q := ⟨_, List.getElem?_eq_getElem (by rw [allP_len]; exact hv)⟩
  have h1 := allP_rng n v q hq
  have h2 := allP_done (nb := nb) (n := n) n v hv
  cases q with
  | zero => exact absurd hq h2
  | succ q => exact ⟨q, hq, by omega⟩
end
theorem vis1_none {ps : List Pt} {c k d u : Nat} {st : List Nat × List Nat} {e : Pt} (hu : st.1[k]? = some u) (he : ps[u]? = some e) (hl : idxP ps (stepX e.x d) (stepY e.y d) = none) : vis1 (nbP ps) c k d st = st := by
  unfold vis1 nbP
  rw [hu]
  simp only [he, hl]
theorem vis1_old {ps : List Pt} {c k d u v q : Nat} {st : List Nat × List Nat} {e : Pt} (hu : st.1[k]? = some u) (he : ps[u]? = some e) (hl : idxP ps (stepX e.x d) (stepY e.y d) = some v) (hv : st.2[v]? = some q) (hq : q ≠ 0) : vis1 (nbP ps) c k d st = st := by
  unfold vis1 nbP
  rw [hu]
  simp only [he, hl, hv, Option.some.injEq, if_neg hq]
theorem vis1_new {ps : List Pt} {c k d u v : Nat} {st : List Nat × List Nat} {e : Pt} (hu : st.1[k]? = some u) (he : ps[u]? = some e) (hl : idxP ps (stepX e.x d) (stepY e.y d) = some v) (hv : st.2[v]? = some 0) : vis1 (nbP ps) c k d st = (st.1 ++ [v], st.2.set v c) := by
  unfold vis1 nbP
  rw [hu]
  simp only [he, hl, hv, if_true]
theorem idxI_some {ps : List Pt} {x y : Int} {v : Nat} (h : idxP ps x y = some v) : idxI ps x y = (v : Int) := by
  unfold idxI; rw [h]
theorem idxI_none {ps : List Pt} {x y : Int} (h : idxP ps x y = none) : idxI ps x y = -1 := by
  unfold idxI; rw [h]
theorem l03IndexS_at {op p : Nat} {xs : List Pl} {ps : List Pt} {x y r : Int} {w : World} (ha : AsmAt w p op xs) (hS : Shp (xs.map plPt)) (h5 : xs.length ≤ 100000) (hps : xs.map plPt = ps) (hr : idxI ps x y = r) :
    Calls Try.prog 64 #[.pointer (some ⟨p, op, none⟩), .agg #[.int .i64 x, .int .i64 y]] w fun e w' => e = .returned (.int .i64 r) ∧ Below w.heap.size w w' := by
  rw [← hr, ← hps]; exact l03IndexS_any p xs x y w ha hS h5
def numsV (l : List Nat) : List Value := l.map fun x => Value.int .i64 ((x : Nat) : Int)
theorem numsV_len (l : List Nat) : (numsV l).length = l.length := by simp [numsV]
theorem numsV_snoc (l : List Nat) (x : Nat) : numsV l ++ [Value.int .i64 (x : Int)] = numsV (l ++ [x]) := by simp [numsV]
theorem numsV_get {l : List Nat} {k x : Nat} (h : l[k]? = some x) : (numsV l)[k]? = some (.int .i64 (x : Int)) := by simp [numsV, h]
theorem numsV_set (l : List Nat) (k x : Nat) : (numsV l).set k (.int .i64 (x : Int)) = numsV (l.set k x) := by simp [numsV, List.map_set]
theorem infoRowQ : (Try.prog.info? 67).map (fun i => (i.zero, i.size, i.bytes)) = some (some (.slice none 0 0), 1, 24) := by kernel_rfl
def OwnNs (w : World) (gss : List (List Nat)) (e : Ending) (w' : World) : Prop := ∃ v us, e = .returned v ∧ Own2 w' w.heap.size 67 2 1 v us (gss.map numsV) ∧ Below w.heap.size w w'
/-- the places below t with name q + 1 -/
def nameL (nm : List Nat) (q t : Nat) : List Nat := (List.range t).filter fun i => decide (nm[i]? = some (q + 1))
theorem nameL_zero (nm : List Nat) (q : Nat) : nameL nm q 0 = [] := rfl
theorem nameL_yes {nm : List Nat} {q t : Nat} (h : nm[t]? = some (q + 1)) : nameL nm q (t + 1) = nameL nm q t ++ [t] := by
  unfold nameL; rw [List.range_succ, List.filter_append]; simp [h]
theorem nameL_no {nm : List Nat} {q t : Nat} (h : nm[t]? ≠ some (q + 1)) : nameL nm q (t + 1) = nameL nm q t := by
  unfold nameL; rw [List.range_succ, List.filter_append]; simp [h]
theorem nameL_len (nm : List Nat) (q t : Nat) : (nameL nm q t).length ≤ t := by
  have := List.length_filter_le (fun i => decide (nm[i]? = some (q + 1))) (List.range t)
  simpa [nameL] using this
def namesL (nm : List Nat) (c t : Nat) : List (List Nat) := (List.range c).map fun q => nameL nm q t
theorem namesL_get {nm : List Nat} {c t q : Nat} (h : q < c) : (namesL nm c t)[q]? = some (nameL nm q t) := by simp [namesL, h]
theorem namesL_zero (nm : List Nat) (c : Nat) : (namesL nm c 0).map numsV = List.replicate c [] := by
  apply List.ext_getElem?
  intro j
  by_cases hj : j < c
  · rw [List.getElem?_map, namesL_get hj, List.getElem?_replicate, if_pos hj]; simp [nameL, numsV]
  · rw [List.getElem?_eq_none (by simp [namesL]; omega), List.getElem?_eq_none (by simp; omega)]
theorem namesL_succ {nm : List Nat} {c t q : Nat} (h : nm[t]? = some (q + 1)) (hq : q < c) : namesL nm c (t + 1) = (namesL nm c t).set q (nameL nm q t ++ [t]) := by
  apply List.ext_getElem?
  intro j
  rw [List.getElem?_set]
  by_cases hj : j < c
  · rw [namesL_get hj, namesL_get hj]
    by_cases e : q = j
    · subst e
      rw [if_pos rfl, if_pos (by simp [namesL]; omega), nameL_yes h]
    · rw [if_neg e, nameL_no (by rw [h]; intro hh; injection hh with hh; omega)]
  · rw [List.getElem?_eq_none (by simp [namesL]; omega)]
    by_cases e : q = j
    · omega
    · rw [if_neg e, List.getElem?_eq_none (by simp [namesL]; omega)]
/-- the parts as the reference tells them -/
def partsN (ps : List Pt) : List (List Nat) := namesL (allP (nbP ps) ps.length ps.length).1 (allP (nbP ps) ps.length ps.length).2.length ps.length
theorem gby_setCell (w : World) (b o : Nat) (u : Value) : w.grownBy (w.setCell ⟨b, o, none⟩ u) (some b) :=
  ⟨rfl, rfl, rfl, by simp, fun i hi hne => Below.heap_setCell _ _ _ _ (fun e => hne (by rw [e]))⟩
theorem made_zero (n : Nat) : (madeCells #[Value.int .i64 0] n).toList = numsV (List.replicate n 0) := by
  apply List.ext_getElem?
  intro j
  by_cases hj : j < n
  · simp [madeCells, hj, numsV, Nat.mod_one]
  · rw [List.getElem?_eq_none (by rw [Array.length_toList, size_madeCells]; omega), List.getElem?_eq_none (by simp [numsV]; omega)]
theorem Own2.offs {w : World} {base : Nat} {T E : TypeId} {size : Nat} {v : Value} {us : List Value} {rows : List (List Value)} (h : Own2 w base T E size v us rows) {p : Nat} (hp : ∀ g, v.ownBlock = some g → g ≠ p) (hu : ∀ (k : Nat) (u : Value) (g : Nat), us[k]? = some u → u.ownBlock = some g → g ≠ p) (o : Nat) (x : Value) : Own2 (w.setCell ⟨p, o, none⟩ x) base T E size v us rows :=
  h.kept (gby_setCell w p o x) fun g e => by
    injection e with e
    subst e
    exact ⟨fun e' => hp _ e' rfl, fun k u hk e' => hu k u _ hk e' rfl⟩
theorem l01Step_to {x y X Y : Int} {d : Nat} (w : World) (hd : d < 4) (hx : -100 ≤ x ∧ x ≤ 100) (hy : -100 ≤ y ∧ y ≤ 100) (hX : stepX x (d : Nat) = X) (hY : stepY y (d : Nat) = Y) :
    Calls Try.prog 40 #[.agg #[.int .i64 x, .int .i64 y], .int .i64 (d : Int)] w fun e w' => e = .returned (.agg #[.int .i64 X, .int .i64 Y]) ∧ Below w.heap.size w w' := by
  rw [← hX, ← hY]
  exact l01Step_any _ _ _ _ ⟨by omega, by omega⟩ ⟨by omega, by omega⟩ ⟨by omega, by omega⟩
set_option maxRecDepth 100000 in
set_option maxHeartbeats 4000000 in
theorem l03Parts_any {pa oa : Nat} (xs : List Pl) (w : World) (ha : AsmAt w pa oa xs) (hS : Shp (xs.map plPt)) (hn : xs.length ≤ 100000) :
    Calls Try.prog 35 #[.pointer (some ⟨pa, oa, none⟩)] w (OwnNs w (partsN (xs.map plPt))) := by
  obtain ⟨i0, hi, hz0, hz1, hz2⟩ := info_parts infoRowQ
  obtain ⟨i1, hi', hz0', hz1', hz2'⟩ := info_parts infoI
  have la := ha.lt
  obtain ⟨_, C, n, cc, cq, hR⟩ := id ha
  have hlx := hR.len
  have hmk := fun W => run_makeN (P := Try.prog) 67 2 _ 1 8 Try.underlying67 infoI n (by omega) (by omega) W
  have hAH := Lib.hid ha
  have hSH := Lib.hid hS
  obtain ⟨ps, hps⟩ : ∃ ps, xs.map plPt = ps := ⟨_, rfl⟩
  have hpsH := Lib.hid hps
  have hlp : Hid (ps.length = n) := Lib.hid (by rw [← hps]; simpa using hlx)
  have hpn : partsN (xs.map plPt) = namesL (allP (nbP ps) n n).1 (allP (nbP ps) n n).2.length n := by unfold partsN; rw [hps, hlp.out]
  rw [hpn]
  clear ha hS hR hps hpn
  go_enter Try.func35, Try.ntmps35
  go_wp2
  go_loopg [5, 3] n (fun g i v wr => ∃ (j : Nat) (us : List Value), j + g = n ∧ i = .int .i64 (j : Int) ∧ Hid (Own2 wr w.heap.size 67 2 1 v us (List.replicate (allP (nbP ps) n j).2.length [])) ∧ Hid ((∀ g, v.ownBlock = some g → g ≠ w.heap.size + 1) ∧ ∀ (k : Nat) (u : Value) (g : Nat), us[k]? = some u → u.ownBlock = some g → g ≠ w.heap.size + 1) ∧ Hid (wr.ownsRow w.heap.size 2 1 (.slice (some ⟨w.heap.size + 1, 0, none⟩) n n) n (numsV (allP (nbP ps) n j).1)) ∧ Hid (Below w.heap.size w wr))
  case atStart => exact ⟨0, [], by omega, rfl, Lib.hid (Own2.of_empty ((World.ownsRow_made _ _ _ (Nat.le_refl _) (by decide) rfl).alloc _)), Lib.hid ⟨fun g e => by (have e1 : some w.heap.size = some g := e); injection e1 with e1; omega, fun k u g h => by simp at h⟩, Lib.hid (by have := World.ownsRow_lit (base := w.heap.size) (e := 2) (size := 1) (w.alloc (Obj.cells #[] 67)) (madeCells #[Value.int .i64 0] n) n (by simp) (by unfold maxLen; omega) (by rw [size_madeCells, Nat.mul_one]); rw [made_zero] at this; simpa [allP] using this), Lib.hid (bl_al (bl_al (bl_refl _) _) _)⟩
  case round =>
    obtain ⟨j, us, hj, rfl, hO, hof, hN, hbw⟩ := hrel
    have hszl := hbw.out.size
    have cqw := (hbw.out.cell (p := ⟨pa, oa, none⟩) la).trans cq
    have law : pa < wr.heap.size := by omega
    have hcnt := allP_count (nbP ps) n j
    have hul : us.length = (allP (nbP ps) n j).2.length := by rw [hO.out.len]; simp
    have hNl := (hN.out.lt (w.heap.size + 1) rfl).2
    have hulH := Lib.hid hul
    obtain ⟨A0, c0, rfl⟩ := hO.out.form hul
    clear hul
    by_cases hjn : j < n
    · have hnl := Lib.hid (allP_len (nbP ps) n j)
      obtain ⟨nm, hnm⟩ : ∃ nm, (allP (nbP ps) n j).1 = nm := ⟨_, rfl⟩
      obtain ⟨P, hP⟩ : ∃ P, (allP (nbP ps) n j).2 = P := ⟨_, rfl⟩
      obtain ⟨q, hq⟩ : ∃ q, nm[j]? = some q := ⟨_, List.getElem?_eq_getElem (by rw [← hnm, hnl.out]; exact hjn)⟩
      rw [hnm] at hN hnl
      rw [hP] at hO hulH hcnt hof ⊢
      have hnmH := Lib.hid hnm
      have hPH := Lib.hid hP
      have r0 := (hN.out.cellAt j (by omega)).trans (numsV_get hq)
      have hqH := Lib.hid hq
      clear hnm hP hq
      by_cases hq0 : q = 0
      · subst hq0
        have hsO := Lib.hid (fun (g : Nat) (h : Value.ownBlock (.slice A0 P.length c0) = some g) => (hO.out.lt g h).2)
        have hsU := Lib.hid (fun (k : Nat) (u : Value) (g : Nat) (hk : us[k]? = some u) (h : u.ownBlock = some g) => (hO.out.ltIn hk g h).2)
        have hO1 := Lib.hid ((hO.out.alloc (Obj.cells #[] 2)).alloc (Obj.cells #[.slice (some ⟨wr.heap.size, 0, none⟩) 0 0] 67))
        go_wp2_with (at_builtin; refine wpList_append_own_at _ rfl _ _ 65 rfl w.heap.size 67 i0 (.slice none 0 0) 1 24 Try.underlying65 hi hz0 hz1 hz2 rfl (by decide) _ P.length us rfl (hO1.out.outerN hulH.out) ⟨wr.heap.size + 1, 0, none⟩ 1 1 [.slice (some ⟨wr.heap.size, 0, none⟩) 0 0] rfl rfl (by have := cell_one_new (wr.alloc (Obj.cells #[] 2)) (.slice (some ⟨wr.heap.size, 0, none⟩) 0 0) 67; simpa using this) (fun x hx => by simp at hx; subst hx; rfl) (by unfold maxLen; omega) (by omega) (by simp; omega) ?_; intro v5 w5 hown5 hgrow5 _ hat5; have hs5 : wr.heap.size + 2 ≤ w5.heap.size := (by have := hgrow5.size; simpa using this); have hN5 := Lib.hid (((hN.out.alloc (Obj.cells #[] 2)).alloc (Obj.cells #[.slice (some ⟨wr.heap.size, 0, none⟩) 0 0] 67)).kept hgrow5 (.inr fun e => hof.out.1 _ e.symm rfl)); have z1 := (hN5.out.cellAt j (by omega)).trans (numsV_get hqH.out); have z2 := hN5.out.frozenAt j; have z3 := (hN5.out.lt (w.heap.size + 1) rfl).2; have hO5 := hO1.out.push hulH.out (x := .slice (some ⟨wr.heap.size, 0, none⟩) 0 0) (n := 0) (r := []) ((World.ownsRow_lit (base := w.heap.size) (e := 2) (size := 1) wr #[] 0 hszl (by decide) rfl).alloc _) (fun g e => by (have e1 : some wr.heap.size = some g := e); injection e1 with e1; subst e1; exact ⟨fun e' => by (have := hsO.out _ e'; omega), fun i u hu e' => by (have := hsU.out i u _ hu e'; omega)⟩) hown5 hgrow5 hat5; have hb5 := Lib.hid (((hbw.out.alloc hszl (Obj.cells #[] 2)).alloc (by simp; omega) (Obj.cells #[.slice (some ⟨wr.heap.size, 0, none⟩) 0 0] 67)).grown hgrow5 (by simp; omega) (fun g e => (hO.out.lt g e).1)); have hof5 := Lib.hid (show (∀ g, v5.ownBlock = some g → g ≠ w.heap.size + 1 ∧ g < w5.heap.size) from fun g e => ⟨fun hh => by (rcases hat5 with h | h; exact hof.out.1 g (h ▸ e) hh; rw [h] at e; injection e with e; simp at e; omega), (hown5.lt g e).2⟩); obtain ⟨A5, c5, rfl⟩ := ownsRow_form hown5; have hO5H := Lib.hid hO5; clear hO5 hown5 hgrow5 hat5)
        have hjl : j < nm.length := by rw [hnl.out]; exact hjn
        have hst := Lib.hid (show (numsV nm).set j (.int .i64 ((P.length : Int) + 1)) = numsV (nm.set j (P.length + 1)) by have := numsV_set nm j (P.length + 1); simpa using this)
        have hN6 := Lib.hid (((hN5.out.stored j (.int .i64 ((P.length : Int) + 1))).1).alloc (Obj.cells #[.int .i64 (j : Int)] 2))
        have hU5 := Lib.hid (show ∀ (k : Nat) (u : Value) (g : Nat), (us ++ [Value.slice (some ⟨wr.heap.size, 0, none⟩) 0 0])[k]? = some u → u.ownBlock = some g → g ≠ w.heap.size + 1 ∧ g < w5.heap.size from fun k u g hk hu => by
          refine ⟨?_, (hO5H.out.ltIn hk g hu).2⟩
          rcases Nat.lt_or_ge k us.length with hlt | hge
          · rw [List.getElem?_append_left hlt] at hk
            exact hof.out.2 k u g hk hu
          · rw [List.getElem?_append_right hge] at hk
            have := (List.getElem?_eq_some_iff.1 hk).1
            simp at this
            have h0 : k - us.length = 0 := by omega
            rw [h0] at hk
            simp at hk
            subst hk
            have e1 : some wr.heap.size = some g := hu
            injection e1 with e1
            omega)
        have hO6 := Lib.hid ((hO5H.out.offs (p := w.heap.size + 1) (fun g e => (hof5.out g e).1) (fun k u g hk hu => (hU5.out k u g hk hu).1) j (.int .i64 ((P.length : Int) + 1))).alloc (Obj.cells #[.int .i64 (j : Int)] 2))
        have hb6 := Lib.hid ((hb5.out.setCell (p := ⟨w.heap.size + 1, j, none⟩) (by simp) (.int .i64 ((P.length : Int) + 1))).alloc (by simp; omega) (Obj.cells #[.int .i64 (j : Int)] 2))
        have hR6 := Lib.hid (World.ownsRow_lit (base := w5.heap.size) (e := 2) (size := 1) (w5.setCell ⟨w.heap.size + 1, j, none⟩ (.int .i64 ((P.length : Int) + 1))) #[.int .i64 (j : Int)] 1 (by simp) (by decide) rfl)
        have hV0 := Lib.hid (VisInv.start (n := n) (c := P.length + 1) (N0 := nm) (i := j) (Nat.succ_ne_zero _) hnl.out hqH.out)
        obtain ⟨st0, hst0⟩ : ∃ st0, (([j], nm.set j (P.length + 1)) : List Nat × List Nat) = st0 := ⟨_, rfl⟩
        rw [hst.out] at hN6
        obtain ⟨W7, hW7⟩ : ∃ W7, (w5.setCell ⟨w.heap.size + 1, j, none⟩ (.int .i64 ((P.length : Int) + 1))).alloc (Obj.cells #[.int .i64 (j : Int)] 2) = W7 := ⟨_, rfl⟩
        have hsW : w5.heap.size + 1 ≤ W7.heap.size := by rw [← hW7]; simp
        rw [hW7] at hN6 hO6 hb6 hR6 ⊢
        have hN7 : Hid (W7.ownsRow w.heap.size 2 1 (.slice (some ⟨w.heap.size + 1, 0, none⟩) n n) n (numsV st0.2)) := Lib.hid (by rw [← hst0]; exact hN6.out)
        have hR7 : Hid (W7.ownsRow w5.heap.size 2 1 (.slice (some ⟨w5.heap.size, 0, none⟩) 1 1) st0.1.length (numsV st0.1)) := Lib.hid (by rw [← hst0]; simpa [numsV] using hR6.out)
        have hst0H := Lib.hid hst0
        rw [hst0] at hV0
        obtain ⟨us5, hus5⟩ : ∃ us5, us ++ [Value.slice (some ⟨wr.heap.size, 0, none⟩) 0 0] = us5 := ⟨_, rfl⟩
        rw [hus5] at hO6 hU5
        have hrep : List.replicate P.length ([] : List Value) ++ [[]] = List.replicate (P.length + 1) [] := (List.replicate_succ').symm
        rw [hrep] at hO6
        obtain ⟨cN, hcN⟩ : ∃ cN, P.length + 1 = cN := ⟨_, rfl⟩
        rw [hcN] at hV0 hO6 hof5 ⊢
        have hccH := Lib.hid hcN
        have hul5 := Lib.hid (show us5.length = cN by rw [← hus5, ← hcN]; simp [hulH.out])
        obtain ⟨s0, hs0⟩ : ∃ s0, w5.heap.size = s0 := ⟨_, rfl⟩
        rw [hs0] at hR7 hof5 hU5 hsW hs5 ⊢
        clear hst0 hN6 hR6 hN5 hO5H hO1 hb5 hO hN hbw hst hus5 hof hsO hsU r0 z1 z2 z3 hcN hrep cqw
        go_loopg [7, 6] n (fun g i v wx => ∃ (q : Nat), q + g = n ∧ i = .int .i64 (q : Int) ∧ Hid (wx.ownsRow s0 2 1 v (visS (nbP ps) cN st0 q).1.length (numsV (visS (nbP ps) cN st0 q).1)) ∧ Hid (wx.ownsRow w.heap.size 2 1 (.slice (some ⟨w.heap.size + 1, 0, none⟩) n n) n (numsV (visS (nbP ps) cN st0 q).2)) ∧ Hid (Own2 wx w.heap.size 67 2 1 (.slice A5 cN c5) us5 (List.replicate cN [])) ∧ Hid (Below w.heap.size w wx) ∧ W7.heap.size ≤ wx.heap.size)
        case atStart => exact ⟨0, by omega, rfl, hR7, hN7, hO6, hb6, by omega⟩
        case round =>
          clear hR7 hN7 hO6 hb6
          obtain ⟨q, hq, rfl, hR, hN, hO, hbx, hsx⟩ := hrel
          have hszx := hbx.out.size
          have hVq := Lib.hid (hV0.out.all (nb := nbP ps) q)
          have hlen := VisInv.length hVq.out
          obtain ⟨st, hst⟩ : ∃ st, visS (nbP ps) cN st0 q = st := ⟨_, rfl⟩
          rw [hst] at hR hN hVq hlen
          have hstH := Lib.hid hst
          clear hst
          obtain ⟨A9, c9, rfl⟩ := ownsRow_form hR.out
          by_cases hqn : q < st.1.length
          · obtain ⟨u, hu⟩ : ∃ u, st.1[q]? = some u := ⟨_, List.getElem?_eq_getElem hqn⟩
            have hun : u < n := hVq.out.lt u (List.mem_of_getElem? hu)
            obtain ⟨eu, heu⟩ : ∃ eu, xs[u]? = some eu := ⟨_, List.getElem?_eq_getElem (by omega)⟩
            have hpu : ps[u]? = some ⟨eu.x, eu.y⟩ := by rw [← hpsH.out]; exact plPt_get heu
            have hptu := (hpsH.out ▸ hSH.out : Shp ps).pt u _ hpu
            simp only at hptu
            have huH := Lib.hid hu
            have heuH := Lib.hid heu
            have hpuH := Lib.hid hpu
            have hj0 : j ∈ st0.1 := by rw [← hst0H.out]; simp
            have hjst : j ∈ st.1 := by
              rw [← hstH.out]
              obtain ⟨l, hl⟩ := visS_more (nb := nbP ps) (c := cN) (st := st0) q
              rw [hl]
              exact List.mem_append_left _ hj0
            have hjstH := Lib.hid hjst
            clear hu heu hpu hj0 hjst
            go_wp2
            go_loopg [8, 6] 4 (fun g i v wy => ∃ (d : Nat), d + g = 4 ∧ i = .int .i64 (d : Int) ∧ Hid (wy.ownsRow s0 2 1 v (vis4 (nbP ps) cN q st d).1.length (numsV (vis4 (nbP ps) cN q st d).1)) ∧ Hid (wy.ownsRow w.heap.size 2 1 (.slice (some ⟨w.heap.size + 1, 0, none⟩) n n) n (numsV (vis4 (nbP ps) cN q st d).2)) ∧ Hid (Own2 wy w.heap.size 67 2 1 (.slice A5 cN c5) us5 (List.replicate cN [])) ∧ Hid (Below w.heap.size w wy) ∧ W7.heap.size ≤ wy.heap.size)
            case atStart => exact ⟨0, by omega, rfl, hR, hN, hO, hbx, hsx⟩
            case round =>
              clear hR hN hO hbx hsx hszx
              obtain ⟨d, hd, rfl, hR, hN, hO, hby, hsy⟩ := hrel
              have hszy := hby.out.size
              have hVd := Lib.hid (hVq.out.four (nb := nbP ps) q d)
              have hlend := VisInv.length hVd.out
              have hud := vis4_at (nb := nbP ps) (c := cN) huH.out d
              have hjd : (vis4 (nbP ps) cN q st d).2[j]? = some cN := by
                obtain ⟨l, hl⟩ := vis4_grow (nb := nbP ps) (c := cN) (st := st) q d
                exact hVd.out.is j (by rw [hl]; exact List.mem_append_left _ hjstH.out)
              have h4 : vis4 (nbP ps) cN q st (d + 1) = vis1 (nbP ps) cN q d (vis4 (nbP ps) cN q st d) := rfl
              have h4' : d = 4 → vis4 (nbP ps) cN q st d = visS (nbP ps) cN st0 (q + 1) := fun e => by subst e; rw [← hstH.out]; rfl
              obtain ⟨sd, hsd⟩ : ∃ sd, vis4 (nbP ps) cN q st d = sd := ⟨_, rfl⟩
              rw [hsd] at hR hN hVd hlend hud h4 h4' hjd
              have h4H := Lib.hid h4
              have h4'H := Lib.hid h4'
              clear hsd h4 h4'
              have hqd : q < sd.1.length := (List.getElem?_eq_some_iff.1 hud).1
              obtain ⟨A9, c9, rfl⟩ := ownsRow_form hR.out
              by_cases hd4 : d < 4
              · have hdI : (d : Int) < 4 := by omega
                obtain ⟨g9, cap9, hv9⟩ : ∃ g9 cap9, Value.slice A9 sd.1.length c9 = .slice (some ⟨g9, 0, none⟩) sd.1.length cap9 := by
                  rcases hR.out.2 with ⟨_, h0⟩ | ⟨g, cap, cur, hv, _⟩
                  · omega
                  · exact ⟨g, cap, hv⟩
                injection hv9 with hv1 hv2 hv3
                subst hv1 hv3
                clear hv2
                have hgl := (hR.out.lt g9 rfl)
                have r0 := (hR.out.cellAt q (by omega)).trans (numsV_get hud)
                have r9 := (hN.out.cellAt j (by omega)).trans (numsV_get hjd)
                have hNl := (hN.out.lt (w.heap.size + 1) rfl).2
                have cqy := (hby.out.cell (p := ⟨pa, oa, none⟩) la).trans cq
                have lay : pa < wr.heap.size := by omega
                obtain ⟨_, C', k', cc', cq', hRx⟩ := hAH.out.below hby.out
                rw [cqy] at cq'
                obtain ⟨rfl, rfl, rfl⟩ : C = C' ∧ n = k' ∧ cc = cc' := by injection cq' with h; injection h with a b c; exact ⟨a, b, c⟩
                obtain ⟨bC, oC, hCe, hbC, hcC⟩ := hRx.ptr (by omega)
                obtain ⟨d0, d1, d2⟩ := hcC u eu heuH.out
                subst hCe
                obtain ⟨sx, hsxe⟩ : ∃ sx, stepX eu.x (d : Nat) = sx := ⟨_, rfl⟩
                obtain ⟨sy, hsye⟩ : ∃ sy, stepY eu.y (d : Nat) = sy := ⟨_, rfl⟩
                have hsxH := Lib.hid hsxe
                have hsyH := Lib.hid hsye
                have hudH := Lib.hid hud
                have hjdH := Lib.hid hjd
                have hAy := Lib.hid (hAH.out.below hby.out)
                clear hsxe hsye hud hjd hcC hRx cq'
                
                cases hix : idxP ps sx sy with
                | none =>
                  have hms := Lib.hid (vis1_none (c := cN) (d := d) hudH.out hpuH.out (by rw [hsxH.out, hsyH.out]; exact hix))
                  have hri := Lib.hid (idxI_none hix)
                  clear hix
                  go_wp2
                  refine wp_region_ord [(0, .q), (1, .q), (2, .q), (3, .q), (4, .q), (5, .q), (6, .q), (7, .q), (8, .q), (9, .q), (10, .q), (11, .q), (12, .q), (13, .g), (14, .g), (15, .q)] (by kernel_rfl) (by kernel_rfl) ?_
                  simp only [pick, List.filterMap_cons, List.filterMap_nil, List.getElem?_toArray, List.getElem?_cons_zero, List.getElem?_cons_succ, Option.map_some]
                  repeat (first
                    | ((with_reducible refine wpD_p (fun K hK => ?_)); go_simp; refine hK _ ?_; clear hK K)
                    | ((with_reducible refine wpD_q (fun K hK => ?_)); go_simp; (first | refine hK _ ?_ | (go_bits; refine hK _ ?_) | (go_bits; go_simp; refine hK _ ?_)); clear hK K)
                    | ((with_reducible refine wpD_g (fun K hK => ?_)); go_simp; refine hK _ _ ?_; clear hK K)
                    | ((with_reducible refine wpD_g (fun K hK => ?_)); go_simp; refine ⟨Grew.of_alloc _, hK _ _ ?_⟩; clear hK K)
                    | ((with_reducible refine wpD_g (fun K hK => ?_)); go_simp; go_at_call 40; refine (l01Step_to _ hd4 ⟨by omega, by omega⟩ ⟨by omega, by omega⟩ hsxH.out hsyH.out).mono ?_; rintro e w1 ⟨rfl, hb1⟩; refine ⟨_, rfl, hb1, hK _ _ ?_⟩; clear hK K; obtain ⟨chb1, fhb1, shb1, thb1⟩ := bcell hb1; (try have bhb10 := shb1 (pa) (by go_simp)))
                    | ((with_reducible refine wpD_g (fun K hK => ?_)); go_simp; go_at_call 64; refine (l03IndexS_at (hAy.out.below (by exact bel_)) hSH.out hn hpsH.out hri.out).mono ?_; rintro e w2 ⟨rfl, hb2⟩; refine ⟨_, rfl, hb2, hK _ _ ?_⟩; clear hK K; obtain ⟨chb2, fhb2, shb2, thb2⟩ := bcell hb2; (try have bhb20 := shb2 (pa) (by go_simp))))
                  with_reducible refine wpD_nil ?_
                  have hb2' : Below wr.heap.size wr w2 := by exact bel_
                  have hb2H := Lib.hid hb2'
                  have hs2 := hb2'.size
                  go_wp2
                  go_roundg (4 - (d + 1))
                  case measure => omega
                  case rel => exact ⟨d + 1, by omega, by go_num, Lib.hid (by rw [h4H.out, hms.out]; exact ownsRow_below hR.out hb2H.out), Lib.hid (by rw [h4H.out, hms.out]; exact ownsRow_below hN.out hb2H.out), Lib.hid (hO.out.below hb2H.out), Lib.hid (hby.out.trans (hb2H.out.mono hszy)), by omega⟩
                | some v =>
                  have hvp := idxP_some hix
                  have hvn : v < n := by rw [← hlp.out]; exact lt_of_get hvp
                  obtain ⟨q', hq'⟩ : ∃ q', sd.2[v]? = some q' := ⟨_, List.getElem?_eq_getElem (by rw [hVd.out.len]; exact hvn)⟩
                  have r2 := (hN.out.cellAt v (by omega)).trans (numsV_get hq')
                  have hri := Lib.hid (idxI_some hix)
                  have hixH := Lib.hid (show idxP ps (stepX eu.x d) (stepY eu.y d) = some v by rw [hsxH.out, hsyH.out]; exact hix)
                  have hq'H := Lib.hid hq'
                  clear hix hvp hq'
                  by_cases hq0 : q' = 0
                  · subst hq0
                    have hvis := Lib.hid (vis1_new (c := cN) (d := d) hudH.out hpuH.out hixH.out hq'H.out)
                    go_wp2
                    refine wp_region_ord [(0, .q), (1, .q), (2, .q), (3, .q), (4, .q), (5, .q), (6, .q), (7, .q), (8, .q), (9, .q), (10, .q), (11, .q), (12, .q), (13, .g), (14, .g), (15, .q)] (by kernel_rfl) (by kernel_rfl) ?_
                    simp only [pick, List.filterMap_cons, List.filterMap_nil, List.getElem?_toArray, List.getElem?_cons_zero, List.getElem?_cons_succ, Option.map_some]
                    repeat (first
                      | ((with_reducible refine wpD_p (fun K hK => ?_)); go_simp; refine hK _ ?_; clear hK K)
                      | ((with_reducible refine wpD_q (fun K hK => ?_)); go_simp; (first | refine hK _ ?_ | (go_bits; refine hK _ ?_) | (go_bits; go_simp; refine hK _ ?_)); clear hK K)
                      | ((with_reducible refine wpD_g (fun K hK => ?_)); go_simp; refine hK _ _ ?_; clear hK K)
                      | ((with_reducible refine wpD_g (fun K hK => ?_)); go_simp; refine ⟨Grew.of_alloc _, hK _ _ ?_⟩; clear hK K)
                      | ((with_reducible refine wpD_g (fun K hK => ?_)); go_simp; go_at_call 40; refine (l01Step_to _ hd4 ⟨by omega, by omega⟩ ⟨by omega, by omega⟩ hsxH.out hsyH.out).mono ?_; rintro e w1 ⟨rfl, hb1⟩; refine ⟨_, rfl, hb1, hK _ _ ?_⟩; clear hK K; obtain ⟨chb1, fhb1, shb1, thb1⟩ := bcell hb1; (try have bhb10 := shb1 (pa) (by go_simp)))
                      | ((with_reducible refine wpD_g (fun K hK => ?_)); go_simp; go_at_call 64; refine (l03IndexS_at (hAy.out.below (by exact bel_)) hSH.out hn hpsH.out hri.out).mono ?_; rintro e w2 ⟨rfl, hb2⟩; refine ⟨_, rfl, hb2, hK _ _ ?_⟩; clear hK K; obtain ⟨chb2, fhb2, shb2, thb2⟩ := bcell hb2; (try have bhb20 := shb2 (pa) (by go_simp))))
                    with_reducible refine wpD_nil ?_
                    have hb2' : Below wr.heap.size wr w2 := by exact bel_
                    have hb2H := Lib.hid hb2'
                    have hs2 := hb2'.size
                    have q2 := (hb2'.cell (p := ⟨w.heap.size + 1, v, none⟩) hNl).trans r2
                    have q9 := (hb2'.cell (p := ⟨w.heap.size + 1, j, none⟩) hNl).trans r9
                    have qf := (hb2'.frozen (p := ⟨w.heap.size + 1, v, none⟩) hNl).trans (hN.out.frozenAt v)
                    have ql : w.heap.size + 1 < w2.heap.size := by omega
                    have hR2 := Lib.hid ((ownsRow_below hR.out hb2').kept (gby_setCell w2 (w.heap.size + 1) v (.int .i64 (cN : Int))) (.inr (by intro e; (have e1 : some g9 = some (w.heap.size + 1) := e); injection e1 with e1; omega)))
                    have hN2 := Lib.hid (((ownsRow_below hN.out hb2').stored v (.int .i64 (cN : Int))).1)
                    have hO2 := Lib.hid ((hO.out.below hb2').offs (p := w.heap.size + 1) (fun g e => (hof5.out g e).1) (fun k u g hk hu => (hU5.out k u g hk hu).1) v (.int .i64 (cN : Int)))
                    have hbs := Lib.hid ((hby.out.trans (hb2'.mono hszy)).setCell (p := ⟨w.heap.size + 1, v, none⟩) (by simp) (.int .i64 (cN : Int)))
                    clear hb2'
                    go_wp2_with (at_builtin; refine wpList_append_own_at _ rfl _ _ 67 rfl s0 2 i1 (.int .i64 0) 1 8 Try.underlying67 hi' hz0' hz1' hz2' rfl (by decide) _ sd.1.length (numsV sd.1) rfl (hR2.out.alloc _) ⟨w2.heap.size, 0, none⟩ 1 1 [.int .i64 (v : Int)] rfl rfl (by have := cell_one_new (w2.setCell ⟨w.heap.size + 1, v, none⟩ (.int .i64 (cN : Int))) (.int .i64 (v : Int)) 2; simpa using this) (fun x hx => by simp at hx; subst hx; rfl) (by unfold maxLen; omega) (by omega) (by simp; omega) ?_; intro v5 w8 hown8 hgrow8 _ hat8; have hown8H := Lib.hid hown8; have hgrow8H := Lib.hid hgrow8; clear hown8 hgrow8 hat8)
                    have hs8 : w2.heap.size + 1 ≤ w8.heap.size := by have := hgrow8H.out.size; simpa using this
                    go_roundg (4 - (d + 1))
                    case measure => omega
                    case rel =>
                      refine ⟨d + 1, by omega, by go_num, Lib.hid ?_, Lib.hid ?_, Lib.hid ?_, Lib.hid ((hbs.out.alloc (by simp; omega) _).grown hgrow8H.out (by simp; omega) fun g e => by (have e1 : some g9 = some g := e); injection e1 with e1; omega), by omega⟩
                      · rw [h4H.out, hvis.out]
                        have := hown8H.out
                        rw [numsV_snoc] at this
                        simpa using this
                      · rw [h4H.out, hvis.out]
                        have h1 := hN2.out
                        rw [numsV_set] at h1
                        exact (h1.alloc _).kept hgrow8H.out (.inr (by intro e; (have e1 : some (w.heap.size + 1) = some g9 := e); injection e1 with e1; omega))
                      · refine (hO2.out.alloc _).kept hgrow8H.out fun g e => ?_
                        have e1 : some g9 = some g := e
                        injection e1 with e1
                        subst e1
                        exact ⟨fun e' => by have := (hof5.out _ e').2; omega, fun i u hu e' => by have := (hU5.out i u _ hu e').2; omega⟩
                  · have hms := Lib.hid (vis1_old (c := cN) (d := d) hudH.out hpuH.out hixH.out hq'H.out hq0)
                    have hqd0 : ((q' : Int) == 0) = false := by simp; omega
                    go_wp2
                    refine wp_region_ord [(0, .q), (1, .q), (2, .q), (3, .q), (4, .q), (5, .q), (6, .q), (7, .q), (8, .q), (9, .q), (10, .q), (11, .q), (12, .q), (13, .g), (14, .g), (15, .q)] (by kernel_rfl) (by kernel_rfl) ?_
                    simp only [pick, List.filterMap_cons, List.filterMap_nil, List.getElem?_toArray, List.getElem?_cons_zero, List.getElem?_cons_succ, Option.map_some]
                    repeat (first
                      | ((with_reducible refine wpD_p (fun K hK => ?_)); go_simp; refine hK _ ?_; clear hK K)
                      | ((with_reducible refine wpD_q (fun K hK => ?_)); go_simp; (first | refine hK _ ?_ | (go_bits; refine hK _ ?_) | (go_bits; go_simp; refine hK _ ?_)); clear hK K)
                      | ((with_reducible refine wpD_g (fun K hK => ?_)); go_simp; refine hK _ _ ?_; clear hK K)
                      | ((with_reducible refine wpD_g (fun K hK => ?_)); go_simp; refine ⟨Grew.of_alloc _, hK _ _ ?_⟩; clear hK K)
                      | ((with_reducible refine wpD_g (fun K hK => ?_)); go_simp; go_at_call 40; refine (l01Step_to _ hd4 ⟨by omega, by omega⟩ ⟨by omega, by omega⟩ hsxH.out hsyH.out).mono ?_; rintro e w1 ⟨rfl, hb1⟩; refine ⟨_, rfl, hb1, hK _ _ ?_⟩; clear hK K; obtain ⟨chb1, fhb1, shb1, thb1⟩ := bcell hb1; (try have bhb10 := shb1 (pa) (by go_simp)))
                      | ((with_reducible refine wpD_g (fun K hK => ?_)); go_simp; go_at_call 64; refine (l03IndexS_at (hAy.out.below (by exact bel_)) hSH.out hn hpsH.out hri.out).mono ?_; rintro e w2 ⟨rfl, hb2⟩; refine ⟨_, rfl, hb2, hK _ _ ?_⟩; clear hK K; obtain ⟨chb2, fhb2, shb2, thb2⟩ := bcell hb2; (try have bhb20 := shb2 (pa) (by go_simp))))
                    with_reducible refine wpD_nil ?_
                    have hb2' : Below wr.heap.size wr w2 := by exact bel_
                    have hb2H := Lib.hid hb2'
                    have hs2 := hb2'.size
                    have q2 := (hb2'.cell (p := ⟨w.heap.size + 1, v, none⟩) hNl).trans r2
                    have ql : w.heap.size + 1 < w2.heap.size := by omega
                    clear hb2'
                    go_wp2
                    go_roundg (4 - (d + 1))
                    case measure => omega
                    case rel => exact ⟨d + 1, by omega, by go_num, Lib.hid (by rw [h4H.out, hms.out]; exact ownsRow_below hR.out hb2H.out), Lib.hid (by rw [h4H.out, hms.out]; exact ownsRow_below hN.out hb2H.out), Lib.hid (hO.out.below hb2H.out), Lib.hid (hby.out.trans (hb2H.out.mono hszy)), by omega⟩
              · obtain rfl : d = 4 := by omega
                go_wp2
                go_roundg (n - (q + 1))
                case measure => omega
                case rel =>
                  refine ⟨q + 1, by omega, by go_num, Lib.hid ?_, Lib.hid ?_, hO, hby, hsy⟩
                  · rw [← h4'H.out (by simp)]; exact hR.out
                  · rw [← h4'H.out (by simp)]; exact hN.out
          · have hend := Lib.hid (visS_end hV0.out (nb := nbP ps) (k := q) (by rw [hstH.out]; omega))
            have hyes := Lib.hid (allP_yes (nb := nbP ps) (n := n) (i := j) hnmH.out hPH.out hqH.out (st := st) (by rw [hst0H.out, hccH.out, ← hend.out, hstH.out]))
            go_wp2
            go_roundg (n - (j + 1))
            case measure => omega
            case rel => exact ⟨j + 1, us5, by omega, by go_num, Lib.hid (by rw [hyes.out.2]; simp only [List.length_append, List.length_singleton]; rw [hccH.out]; exact hO.out), Lib.hid ⟨fun g e => (hof5.out g e).1, fun k u g hk hu => (hU5.out k u g hk hu).1⟩, Lib.hid (by rw [hyes.out.1]; exact hN.out), hbx⟩
      · have hqp : (0 : Int) < (q : Int) := by omega
        have hno := Lib.hid (allP_no (nb := nbP ps) (n := n) (i := j) (by rw [hnmH.out, hqH.out]; intro hh; injection hh with hh; exact hq0 hh))
        go_wp2
        go_roundg (n - (j + 1))
        case measure => omega
        case rel => exact ⟨j + 1, us, by omega, by go_num, Lib.hid (by rw [hno.out, hPH.out]; exact hO.out), hof, Lib.hid (by rw [hno.out, hnmH.out]; exact hN.out), hbw⟩
    · obtain rfl : j = n := by omega
      obtain ⟨nm, hnm⟩ : ∃ nm, (allP (nbP ps) j j).1 = nm := ⟨_, rfl⟩
      obtain ⟨P, hP⟩ : ∃ P, (allP (nbP ps) j j).2 = P := ⟨_, rfl⟩
      have hnamed := Lib.hid (fun (v : Nat) (hv : v < j) => (hnm ▸ hP ▸ allP_named (nb := nbP ps) hv : ∃ q, nm[v]? = some (q + 1) ∧ q < P.length))
      rw [hnm] at hN
      rw [hP] at hO hulH hcnt hof
      rw [hnm, hP]
      obtain ⟨cN, hcN⟩ : ∃ cN, P.length = cN := ⟨_, rfl⟩
      rw [hcN] at hO hulH hcnt hof hnamed ⊢
      have hO0 : Hid (Own2 wr w.heap.size 67 2 1 (.slice A0 cN c0) us ((namesL nm cN 0).map numsV)) := Lib.hid (by rw [namesL_zero]; exact hO.out)
      have hEq := Lib.hid (show namesL (allP (nbP ps) j j).1 (allP (nbP ps) j j).2.length j = namesL nm cN j by rw [hnm, hP, hcN])
      clear hnm hP hcN hO
      go_wp2
      go_loopg [10] j (fun g i wy => ∃ (t : Nat) (us : List Value), t + g = j ∧ i = .int .i64 (t : Int) ∧ Hid (Own2 wy w.heap.size 67 2 1 (.slice A0 cN c0) us ((namesL nm cN t).map numsV)) ∧ Hid (∀ (k : Nat) (u : Value) (g : Nat), us[k]? = some u → u.ownBlock = some g → g ≠ w.heap.size + 1) ∧ Hid (us.length = cN) ∧ Hid (wy.ownsRow w.heap.size 2 1 (.slice (some ⟨w.heap.size + 1, 0, none⟩) j j) j (numsV nm)) ∧ Hid (Below w.heap.size w wy))
      case atStart => exact ⟨0, us, by omega, rfl, hO0, Lib.hid hof.out.2, hulH, hN, hbw⟩
      case round =>
        clear hO0 hN hbw hulH hszl cqw law hNl
        have hofv := Lib.hid hof.out.1
        clear hof
        obtain ⟨t, us, ht, rfl, hO, hofu, hul, hN, hbw⟩ := hrel
        have hszl := hbw.out.size
        have hNl := (hN.out.lt (w.heap.size + 1) rfl).2
        by_cases htn : t < j
        · obtain ⟨q, hq, hqc⟩ := hnamed.out t htn
          obtain ⟨g2, cap2, hv⟩ := hO.out.formPos hul.out (by omega)
          injection hv with hv1 hv2 hv3
          subst hv1 hv3
          clear hv2
          have r0 : wr.cell? ⟨w.heap.size + 1, t, none⟩ = some (.int .i64 ((q : Int) + 1)) := by
            have := (hN.out.cellAt t (by omega)).trans (numsV_get hq)
            simpa using this
          have hsucc := Lib.hid (namesL_succ (c := cN) hq hqc)
          obtain ⟨u, hu⟩ : ∃ u, us[q]? = some u := ⟨_, List.getElem?_eq_getElem (by rw [hul.out]; exact hqc)⟩
          obtain ⟨n', r', hr', hown0⟩ := hO.out.get hu
          rw [List.getElem?_map, namesL_get hqc] at hr'
          simp only [Option.map_some, Option.some.injEq] at hr'
          subst hr'
          obtain ⟨A1, cap1, rfl⟩ := ownsRow_form hown0
          have huH := Lib.hid hu
          have hownH := Lib.hid hown0
          have hl' := hown0.1
          rw [numsV_len, Nat.mul_one] at hl'
          have hll : n' ≤ t := by
            rw [← hl']
            exact nameL_len nm q t
          obtain ⟨q1, q2, q3⟩ := hO.out.cellAt hul.out hu
          obtain ⟨rowa, hrowa⟩ : ∃ row, (Value.slice A1 n' cap1).ownBlock = row := ⟨_, rfl⟩
          have r1a : ¬ some (w.heap.size + 1) = rowa := fun h => hofu.out q _ _ huH.out (hrowa.trans h.symm) rfl
          have r2a : ¬ some g2 = rowa := fun h => hO.out.off q _ _ huH.out (hrowa.trans h.symm) rfl
          have hg2 : g2 ≠ w.heap.size + 1 := hofv.out g2 rfl
          clear hq hu hown0 hl'
          go_wp2
          refine wp_region_row (rowa) [(0, .q), (1, .q), (2, .q), (3, .q), (4, .q), (5, .q), (6, .q), (7, .q), (8, .q), (9, .q), (10, .q), (11, .q), (12, .q), (13, .q), (14, .q), (15, .g), (16, .g), (17, .q), (18, .b)] (by kernel_rfl) (by kernel_rfl) ?_
          simp only [pick, List.filterMap_cons, List.filterMap_nil, List.getElem?_toArray, List.getElem?_cons_zero, List.getElem?_cons_succ, Option.map_some]
          repeat (first | ((with_reducible refine wpR_p (fun K hK => ?_)); go_simp; refine hK _ ?_; clear hK K) | ((with_reducible refine wpR_q (fun K hK => ?_)); go_simp; (first | refine hK _ ?_ | (go_bits; refine hK _ ?_) | (go_bits; go_simp; refine hK _ ?_)); clear hK K))
          with_reducible refine wpR_g (fun K hK => ?_)
          go_simp
          refine ⟨GrewR.of_alloc _, hK _ _ ?_⟩
          clear hK K
          have hba : Below wr.heap.size wr (wr.alloc (Obj.cells #[.int .i64 (t : Int)] 2)).drew := by exact bel_
          have hbaH := Lib.hid hba
          clear hba
          refine wpR_append_at rfl _ _ 67 rfl w.heap.size 2 i1 (.int .i64 0) 1 8 Try.underlying67 hi' hz0' hz1' hz2' rfl (by decide) (.slice A1 n' cap1) n' (numsV (nameL nm q t)) (by go_simp) (ownsRow_below hownH.out hbaH.out) hrowa ⟨wr.heap.size, 0, none⟩ 1 1 [.int .i64 (t : Int)] (by go_simp) rfl ?hnewsa (fun x hx => by simp at hx; subst hx; rfl) (by unfold maxLen; omega) (by omega) (by simp; omega) ?_
          case hnewsa =>
            have := cell_one_new wr (.int .i64 (t : Int)) 2
            simpa using this
          intro va w3 hown3 hgrow3 hat3
          obtain ⟨A3, cap3, rfl⟩ := ownsRow_form hown3
          obtain ⟨z1, z2, z3, z4⟩ := (hO.out.below hbaH.out).after hul.out huH.out hgrow3
          have hown3H := Lib.hid hown3
          have hgrow3H := Lib.hid hgrow3
          have hat3H := Lib.hid hat3
          have n1 := (World.cell?_of_block (w := (wr.alloc (Obj.cells #[.int .i64 (t : Int)] 2)).drew) (w' := w3) (a := ⟨w.heap.size + 1, t, none⟩) (hgrow3.block (w.heap.size + 1) (by simp; omega) (fun h => r1a (h.trans hrowa))))
          clear hown3 hgrow3 hat3
          repeat (first | ((with_reducible refine wpR_p (fun K hK => ?_)); go_simp; refine hK _ ?_; clear hK K) | ((with_reducible refine wpR_q (fun K hK => ?_)); go_simp; (first | refine hK _ ?_ | (go_bits; refine hK _ ?_) | (go_bits; go_simp; refine hK _ ?_)); clear hK K))
          with_reducible refine wpR_b (fun K hK => ?_)
          go_simp
          refine hK _ _ ?_
          clear hK K
          with_reducible refine wpR_nil ?_
          go_wp2
          go_roundg (j - (t + 1))
          case measure => omega
          case rel =>
            have hF := (hO.out.below hbaH.out).grow hul.out huH.out hown3H.out hgrow3H.out hat3H.out
            refine ⟨t + 1, us.set q (.slice A3 (n' + 1) cap3), by omega, by go_num, Lib.hid ?_, Lib.hid ?_, Lib.hid (by rw [List.length_set]; exact hul.out), Lib.hid ?_, Lib.hid ?_⟩
            · have hrw : ((namesL nm cN t).map numsV).set q (numsV (nameL nm q t) ++ [Value.int .i64 (t : Int)]) = (namesL nm cN (t + 1)).map numsV := by
                rw [hsucc.out, List.map_set, numsV_snoc]
              rw [hrw] at hF
              exact hF
            · intro k u g hk hu e
              by_cases hkq : q = k
              · subst hkq
                rw [List.getElem?_set_self (by rw [hul.out]; exact hqc)] at hk
                injection hk with hk
                subst hk
                rcases hat3H.out with h | h
                · exact hofu.out q _ g huH.out (h ▸ hu) e
                · rw [h] at hu
                  injection hu with hu
                  have := hbaH.out.size
                  omega
              · rw [List.getElem?_set_ne hkq] at hk
                exact hofu.out k u g hk hu e
            · exact (((ownsRow_below hN.out hbaH.out).kept hgrow3H.out (.inr fun h => r1a (h.trans hrowa))).kept (gby_setCell w3 g2 q _) (.inr (by intro e; (have e1 : some (w.heap.size + 1) = some g2 := e); injection e1 with e1; omega)))
            · have h1 : Below w.heap.size w w3 := (hbw.out.trans (hbaH.out.mono hszl)).grown hgrow3H.out (by have := hbaH.out.size; omega) (fun g e => (hownH.out.lt g e).1)
              exact h1.setCell (p := ⟨g2, q, none⟩) z4 _
        · obtain rfl : t = j := by omega
          go_wp2
          go_ret
          exact ⟨.slice A0 cN c0, us, rfl, by rw [hEq.out]; exact hO.out, hbw.out⟩
end Go.Proofs.Ytpnahobgmemdjaa
