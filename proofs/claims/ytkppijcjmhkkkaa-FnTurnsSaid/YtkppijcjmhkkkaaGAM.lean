import Derived.Test.YtkppijcjmhkkkaaGAL
import Derived.Maps.AppendAt
import Derived.Test.YtkppijcjmhkkkaaGAD
import Derived.Test.YtkppijcjmhkkkaaGAG
set_option linter.unusedSimpArgs false
set_option linter.unusedVariables false
/- A rule for regions that draw their order, with one row of the call's own that an append grows: the other operations read only what an append leaves alone. -/


namespace Go.Proofs.Ytkppijcjmhkkkaa
open Go.RowKit
theorem gby_refl (w : World) (row : Option Nat) : w.grownBy w row := ⟨rfl, rfl, rfl, Nat.le_refl _, fun _ _ _ => rfl⟩
theorem gby_trans {w w1 w2 : World} {row : Option Nat} (h : w.grownBy w1 row) (h2 : w1.grownBy w2 row) : w.grownBy w2 row :=
  ⟨h2.os.trans h.os, h2.tape.trans h.tape, h2.output.trans h.output, Nat.le_trans h.size h2.size, fun k hk hne => (h2.block k (Nat.lt_of_lt_of_le hk h.size) hne).trans (h.block k hk hne)⟩
/-- A world that is w below w's heap, but for one block. -/
structure ByR (row : Option Nat) (w : World) where
  world : World
  h : w.grownBy world row
instance (row : Option Nat) (w : World) : Inhabited (ByR row w) := ⟨⟨w, gby_refl _ _⟩⟩
theorem ByR.cell {row : Option Nat} {W : World} (p : ByR row W) (b o : Nat) (h : b < W.heap.size) (hr : ¬ some b = row) : p.world.cell? ⟨b, o, none⟩ = W.cell? ⟨b, o, none⟩ := World.cell?_of_block (w := W) (a := ⟨b, o, none⟩) (p.h.block b h hr)
theorem ByR.cell_drew {row : Option Nat} {W : World} (p : ByR row W.drew) (b o : Nat) (h : b < W.heap.size) (hr : ¬ some b = row) : p.world.cell? ⟨b, o, none⟩ = W.cell? ⟨b, o, none⟩ := p.cell b o h hr
section
variable {P : Program} {ops : Array Oper} {row : Option Nat}

def wpR (P : Program) (ops : Array Oper) (row : Option Nat) (Q : Act → World → Prop) : List (Oper × Tag) → Act → World → Prop
  | [], a, w => Q a w
  | (o, .q) :: rest, a, w =>
    if Region.wanted o (yielded ops a.tmps) then ∃ v, (∀ p : ByR row w, stillUpon p.world v ((execOp a.eval o).run P p.world)) ∧ wpR P ops row Q rest (a.put o.dst v) w
    else wpR P ops row Q rest (a.put o.dst undef) w
  | (o, .g) :: rest, a, w =>
    if Region.wanted o (yielded ops a.tmps) then givesUpon P (fun v w' => w.grownBy w' row ∧ wpR P ops row Q rest (a.put o.dst v) w') ((execOp a.eval o).run P w)
    else wpR P ops row Q rest (a.put o.dst undef) w
  | (o, .b) :: rest, a, w =>
    if Region.wanted o (yielded ops a.tmps) then givesUpon P (fun v w' => wpR P ops row Q rest (a.put o.dst v) w') ((execOp a.eval o).run P w)
    else wpR P ops row Q rest (a.put o.dst undef) w
  | (o, .p) :: rest, a, w =>
    if Region.wanted o (yielded ops a.tmps) then ∃ v, (∀ W : World, stillUpon W v ((execOp a.eval o).run P W)) ∧ wpR P ops row Q rest (a.put o.dst v) w
    else wpR P ops row Q rest (a.put o.dst undef) w

/-- Behind a name that simp does not open. -/
def GrewR (row : Option Nat) (w w' : World) : Prop := w.grownBy w' row
theorem GrewR.of_alloc {row : Option Nat} {w : World} (o : Obj) : GrewR row w (w.alloc o) := World.grownBy_alloc w o row

/-- One operation at a time, what follows behind a variable. -/
theorem wpR_q {Q : Act → World → Prop} {o : Oper} {rest : List (Oper × Tag)} {a : Act} {w : World}
    (h : ∀ K : Act → Prop, (∀ a, wpR P ops row Q rest a w → K a) → if Region.wanted o (yielded ops a.tmps) then ∃ v, (∀ p : ByR row w, stillUpon p.world v ((execOp a.eval o).run P p.world)) ∧ K (a.put o.dst v) else K (a.put o.dst undef)) :
    wpR P ops row Q ((o, .q) :: rest) a w := h _ fun _ h => h
theorem wpR_g {Q : Act → World → Prop} {o : Oper} {rest : List (Oper × Tag)} {a : Act} {w : World}
    (h : ∀ K : Act → World → Prop, (∀ a w', wpR P ops row Q rest a w' → K a w') → if Region.wanted o (yielded ops a.tmps) then givesUpon P (fun v w' => GrewR row w w' ∧ K (a.put o.dst v) w') ((execOp a.eval o).run P w) else K (a.put o.dst undef) w) :
    wpR P ops row Q ((o, .g) :: rest) a w := h _ fun _ _ h => h
theorem wpR_b {Q : Act → World → Prop} {o : Oper} {rest : List (Oper × Tag)} {a : Act} {w : World}
    (h : ∀ K : Act → World → Prop, (∀ a w', wpR P ops row Q rest a w' → K a w') → if Region.wanted o (yielded ops a.tmps) then givesUpon P (fun v w' => K (a.put o.dst v) w') ((execOp a.eval o).run P w) else K (a.put o.dst undef) w) :
    wpR P ops row Q ((o, .b) :: rest) a w := h _ fun _ _ h => h
theorem wpR_p {Q : Act → World → Prop} {o : Oper} {rest : List (Oper × Tag)} {a : Act} {w : World}
    (h : ∀ K : Act → Prop, (∀ a, wpR P ops row Q rest a w → K a) → if Region.wanted o (yielded ops a.tmps) then ∃ v, (∀ W : World, stillUpon W v ((execOp a.eval o).run P W)) ∧ K (a.put o.dst v) else K (a.put o.dst undef)) :
    wpR P ops row Q ((o, .p) :: rest) a w := h _ fun _ h => h
theorem wpR_nil {Q : Act → World → Prop} {a : Act} {w : World} (h : Q a w) : wpR P ops row Q [] a w := h

theorem exchR {Q : Act → World → Prop} {oj : Oper} {tj : Tag} {post : List (Oper × Tag)} (hsj : ∀ cs b, oj.op ≠ .select cs b) : ∀ (pre : List (Oper × Tag)) (a : Act) (w : World),
    (∀ x ∈ pre, (x.2 = .q ∨ x.2 = .p) ∧ x.1.apart ops oj = true ∧ ∀ cs b, x.1.op ≠ .select cs b) → (tj = .b → ∀ x ∈ pre, x.2 = .p) → wpR P ops row Q (pre ++ (oj, tj) :: post) a w →
    opStep P ops oj (fun v w' => (tj ≠ .b → w.grownBy w' row) ∧ wpR P ops row Q (pre ++ post) (a.put oj.dst v) w') a w
  | [], a, w, _, _, h => by
    unfold opStep
    simp only [List.nil_append] at h ⊢
    cases tj <;> simp only [wpR] at h <;> split at h <;> rename_i hw <;> simp only [hw, if_true, if_false, Bool.false_eq_true]
    · obtain ⟨v, h1, h2⟩ := h
      exact givesUpon_of_still (h1 ⟨w, gby_refl _ _⟩) ⟨fun _ => gby_refl _ _, h2⟩
    · exact ⟨fun _ => gby_refl _ _, h⟩
    · exact givesUpon_mono h fun v w' hh => ⟨fun _ => hh.1, hh.2⟩
    · exact ⟨fun _ => gby_refl _ _, h⟩
    · exact givesUpon_mono h fun v w' hh => ⟨fun hn => absurd rfl hn, hh⟩
    · exact ⟨fun _ => gby_refl _ _, h⟩
    · obtain ⟨v, h1, h2⟩ := h
      exact givesUpon_of_still (h1 w) ⟨fun _ => gby_refl _ _, h2⟩
    · exact ⟨fun _ => gby_refl _ _, h⟩
  | (op, t) :: pre, a, w, hp, hb, h => by
    obtain ⟨ht, hap, hsp⟩ := hp (op, t) (by simp)
    simp only at ht hap hsp
    obtain ⟨h1, h2, h3⟩ := Oper.apart_spec hap
    have hp' : ∀ x ∈ pre, (x.2 = .q ∨ x.2 = .p) ∧ x.1.apart ops oj = true ∧ ∀ cs b, x.1.op ≠ .select cs b := fun x hx => hp x (by simp [hx])
    have hb' : tj = .b → ∀ x ∈ pre, x.2 = .p := fun e x hx => hb e x (by simp [hx])
    have key : ∀ v, (∀ w', (tj ≠ .b → w.grownBy w' row) → ∀ u, wpR P ops row Q (pre ++ post) ((a.put oj.dst u).put op.dst v) w' → wpR P ops row Q ((op, t) :: (pre ++ post)) (a.put oj.dst u) w') →
        wpR P ops row Q (pre ++ (oj, tj) :: post) (a.put op.dst v) w → opStep P ops oj (fun v w' => (tj ≠ .b → w.grownBy w' row) ∧ wpR P ops row Q ((op, t) :: pre ++ post) (a.put oj.dst v) w') a w := by
      intro v hk hh
      have ih := exchR hsj pre (a.put op.dst v) w hp' hb' hh
      unfold opStep at ih ⊢
      rw [wanted_put oj a op.dst v h1, execOp_put oj hsj a op.dst v h1] at ih
      split at ih <;> rename_i hw <;> simp only [hw, if_true, if_false, Bool.false_eq_true]
      · refine givesUpon_mono ih fun u w' hh' => ⟨hh'.1, hk w' hh'.1 u ?_⟩
        rw [← Act.put_comm a v u h2]; exact hh'.2
      · refine ⟨ih.1, hk w (fun _ => gby_refl _ _) undef ?_⟩
        rw [← Act.put_comm a v undef h2]; exact ih.2
    rcases ht with rfl | rfl
    · have hnb : tj ≠ .b := fun e => by have := hb e (op, .q) (by simp); cases this
      simp only [List.cons_append, wpR] at h
      split at h
      · rename_i hw
        obtain ⟨v, hv, hrest⟩ := h
        refine key v (fun w' hbw u hr => ?_) hrest
        have hbw := hbw hnb
        simp only [wpR]
        rw [wanted_put op a oj.dst u h3, if_pos hw, execOp_put op hsp a oj.dst u h3]
        exact ⟨v, fun p => hv ⟨p.world, gby_trans hbw p.h⟩, hr⟩
      · rename_i hw
        refine key undef (fun w' hbw u hr => ?_) h
        simp only [wpR]
        rw [wanted_put op a oj.dst u h3, if_neg hw]
        exact hr
    · simp only [List.cons_append, wpR] at h
      split at h
      · rename_i hw
        obtain ⟨v, hv, hrest⟩ := h
        refine key v (fun w' hbw u hr => ?_) hrest
        simp only [wpR]
        rw [wanted_put op a oj.dst u h3, if_pos hw, execOp_put op hsp a oj.dst u h3]
        exact ⟨v, hv, hr⟩
      · rename_i hw
        refine key undef (fun w' hbw u hr => ?_) h
        simp only [wpR]
        rw [wanted_put op a oj.dst u h3, if_neg hw]
        exact hr

theorem ord_soundR {Q : Exit → Act → World → Prop} (ord : List (Nat × Tag)) (hsel : Region.noSelect ops = true) (hcov : ∀ i, i < ops.size → ∃ x ∈ ord, x.1 = i)
    (hpw : ord.Pairwise (Rel2 ops)) (hsome : ∀ y ∈ ord, (ops[y.1]?).isSome = true) (htop : ∀ pre y post, ord = pre ++ y :: post → ∀ d ∈ depsOf ops y.1, ∃ x ∈ pre, x.1 = d) :
    ∀ (m : Nat) (listed : Array Bool) (a : Act) (w : World), (rem ord listed).length = m → Ideal ops listed → wpR P ops row (Q .normal) (pick ops (rem ord listed)) a w → wpAny P .any ops Q m listed a w := by
  have hlt : ∀ y ∈ ord, y.1 < ops.size := fun y hy => by
    have := hsome y hy
    rw [Option.isSome_iff_exists] at this
    obtain ⟨o, ho⟩ := this
    exact (Array.getElem?_eq_some_iff.1 ho).1
  intro m
  induction m with
  | zero =>
    intro listed a w hm hid h
    have hnil : rem ord listed = [] := List.eq_nil_of_length_eq_zero hm
    refine ⟨?_, by rw [hnil] at h; exact h⟩
    apply List.eq_nil_iff_forall_not_mem.2
    intro j hj
    obtain ⟨h1, h2, _⟩ := ready_deps hj
    obtain ⟨x, hx, rfl⟩ := hcov j h1
    have : x ∈ rem ord listed := List.mem_filter.2 ⟨hx, by simpa using h2⟩
    rw [hnil] at this
    cases this
  | succ m ih =>
    intro listed a w hm hid h
    refine ⟨fun h0 => ?_, fun j hj => ?_⟩
    · -- the first that has not come up is ready
      exfalso
      obtain ⟨y, rest, hrem⟩ : ∃ y rest, rem ord listed = y :: rest := by
        cases hr : rem ord listed with
        | nil => rw [hr] at hm; cases hm
        | cons y rest => exact ⟨y, rest, rfl⟩
      obtain ⟨pre, post, hord, hpre⟩ := List.filter_eq_cons_iff.1 hrem
      have hy : y ∈ ord := by rw [hord]; simp
      obtain ⟨o, ho⟩ := Option.isSome_iff_exists.1 (hsome y hy)
      have hun : listed.getD y.1 true = false := by
        have : y ∈ rem ord listed := by rw [hrem]; simp
        simpa using (List.mem_filter.1 this).2
      have : y.1 ∈ Region.ready .any ops listed := ready_of ho hun fun d hd => by
        obtain ⟨x, hx, rfl⟩ := htop pre y post hord d hd
        have h1 := hpre.1 x hx
        have hxl : x.1 < listed.size := by rw [hid.size]; exact hlt x (by rw [hord]; simp [hx])
        rw [← getD_tf hxl]
        simpa using h1
      rw [h0] at this
      cases this
    · obtain ⟨h1, h2, h3⟩ := ready_deps hj
      obtain ⟨x, hx, rfl⟩ := hcov j h1
      have hxr : x ∈ rem ord listed := List.mem_filter.2 ⟨hx, by simpa using h2⟩
      obtain ⟨pre, post, hsplit⟩ := List.append_of_mem hxr
      have hpwr : (rem ord listed).Pairwise (Rel2 ops) := hpw.filter _
      rw [hsplit, List.pairwise_append] at hpwr
      obtain ⟨_, hpc, hcross⟩ := hpwr
      obtain ⟨oj, hoj⟩ := Option.isSome_iff_exists.1 (hsome x hx)
      have hpre : ∀ y ∈ pre, Rel2 ops y x ∧ listed.getD y.1 false = false ∧ y ∈ ord := fun y hy => by
        have hyr : y ∈ rem ord listed := by rw [hsplit]; simp [hy]
        obtain ⟨hyo, hyu⟩ := List.mem_filter.1 hyr
        have hyl : y.1 < listed.size := by rw [hid.size]; exact hlt y hyo
        exact ⟨hcross y hy x (by simp), by rw [← getD_tf hyl]; simpa using hyu, hyo⟩
      have hno : ∀ y ∈ pre, ¬ Anc ops x.1 y.1 := fun y hy ha => by
        have := hid.anc ha h3
        rw [(hpre y hy).2.1] at this
        cases this
      have hstep := exchR (row := row) (P := P) (Q := Q .normal) (oj := oj) (tj := x.2) (post := pick ops post) (fun cs b => Region.noSelect_spec hsel x.1 oj cs b hoj) (pick ops pre) a w
        (by
          intro z hz
          obtain ⟨y, hy, hyz⟩ := List.mem_filterMap.1 hz
          obtain ⟨oy, hoy⟩ := Option.isSome_iff_exists.1 (hsome y (hpre y hy).2.2)
          rw [hoy] at hyz
          simp only [Option.map_some, Option.some.injEq] at hyz
          subst hyz
          refine ⟨?_, ?_, fun cs b => Region.noSelect_spec hsel y.1 oy cs b hoy⟩
          · cases hq : y.2 with
            | q => exact Or.inl rfl
            | p => exact Or.inr rfl
            | g => exact absurd ((hpre y hy).1.anc (by rw [hq]; rfl)) (hno y hy)
            | b => exact absurd ((hpre y hy).1.anc (by rw [hq]; rfl)) (hno y hy)
          · rcases (hpre y hy).1.apart with hd | hd
            · exact absurd (.one hd) (hno y hy)
            · unfold apartB at hd
              rw [hoy, hoj] at hd
              exact hd)
        (by
          intro hb z hz
          obtain ⟨y, hy, hyz⟩ := List.mem_filterMap.1 hz
          obtain ⟨oy, hoy⟩ := Option.isSome_iff_exists.1 (hsome y (hpre y hy).2.2)
          rw [hoy] at hyz
          simp only [Option.map_some, Option.some.injEq] at hyz
          subst hyz
          cases hq : y.2 with
          | p => rfl
          | q => exact absurd ((hpre y hy).1.anc (by rw [hq, hb]; rfl)) (hno y hy)
          | g => exact absurd ((hpre y hy).1.anc (by rw [hq]; rfl)) (hno y hy)
          | b => exact absurd ((hpre y hy).1.anc (by rw [hq]; rfl)) (hno y hy))
        (by
          have e : pick ops (rem ord listed) = pick ops pre ++ (oj, x.2) :: pick ops post := by
            rw [hsplit]; unfold pick; simp [List.filterMap_append, hoj]
          rw [← e]; exact h)
      have hrem' : rem ord (listed.setIfInBounds x.1 true) = pre ++ post := by
        have hx1 : x.1 < listed.size := by rw [hid.size]; exact h1
        have e1 : rem ord (listed.setIfInBounds x.1 true) = (rem ord listed).filter fun y => y.1 != x.1 := by
          unfold rem
          rw [List.filter_filter]
          apply List.filter_congr
          intro y hy
          by_cases hyx : x.1 = y.1
          · rw [← hyx]; simp [hx1]
          · have hne : (y.1 != x.1) = true := by simpa using fun h => hyx h.symm
            rw [getD_set_ne true hyx, hne]; simp
        rw [e1, hsplit, List.filter_append, List.filter_cons]
        have hp : pre.filter (fun y => y.1 != x.1) = pre := List.filter_eq_self.2 fun y hy => by simpa using (hpre y hy).1.ne
        have hq : post.filter (fun y => y.1 != x.1) = post := List.filter_eq_self.2 fun y hy => by
          have := (List.pairwise_cons.1 hpc).1 y hy
          simpa using fun e => this.ne e.symm
        rw [hp, hq]; simp
      refine wpOp_of_step hoj ?_
      have hlen : (pre ++ post).length = m := by
        have := hm
        rw [hsplit] at this
        simp at this ⊢
        omega
      have hid' : Ideal ops (listed.setIfInBounds x.1 true) := by
        refine ⟨by simp [hid.size], fun y hy d hd => ?_⟩
        by_cases hxy : x.1 = y
        · subst hxy; exact getD_set_true (h3 d hd)
        · rw [getD_set_ne false hxy] at hy
          exact getD_set_true (hid.closed y hy d hd)
      unfold opStep at hstep ⊢
      have e2 : ∀ v w', wpR P ops row (Q .normal) (pick ops pre ++ pick ops post) (a.put oj.dst v) w' → wpAny P .any ops Q m (listed.setIfInBounds x.1 true) (a.put oj.dst v) w' := fun v w' hh =>
        ih _ _ _ (by rw [hrem']; exact hlen) hid' (by rw [hrem']; unfold pick at hh ⊢; rw [List.filterMap_append]; exact hh)
      split at hstep <;> rename_i hw <;> simp only [hw, if_true, if_false, Bool.false_eq_true]
      · exact givesUpon_mono hstep fun v w' hh => e2 v w' hh.2
      · exact e2 _ _ hstep.2

/-- **The rule.** -/
theorem wp_region_row (row : Option Nat) {id : Nat} {Q : Exit → Act → World → Prop} {a : Act} {w : World} {l : List Oper} (ord : List (Nat × Tag)) (hm : P.follows .mixedOrders = true) (hB : ordB l.toArray ord = true)
    (h : wpR P l.toArray row (Q .normal) (pick l.toArray ord) a w.drew) : (Code.region id l.toArray true).wp P Q a w := by
  simp only [ordB, Bool.and_eq_true, beq_iff_eq] at hB
  obtain ⟨⟨⟨hsel, hlen⟩, hcov⟩, hfrom⟩ := hB
  obtain ⟨hpw, _, hsome, htop⟩ := ordFrom_spec ord [] hfrom (fun _ h => by cases h)
  refine wp_region_any hm ?_
  have hall : rem ord (Array.replicate l.toArray.size false) = ord := List.filter_eq_self.2 fun y hy => by
    obtain ⟨o, ho⟩ := Option.isSome_iff_exists.1 (hsome y hy)
    have := (Array.getElem?_eq_some_iff.1 ho).1
    simp at this
    simp [this]
  have hs := ord_soundR (row := row) (P := P) (Q := Q) ord hsel (fun i hi => by
    have := List.all_eq_true.1 hcov i (List.mem_range.2 hi)
    obtain ⟨x, hx, hxi⟩ := List.any_eq_true.1 this
    exact ⟨x, hx, by simpa using hxi⟩) hpw hsome (fun pre y post he d hd => by
      rcases htop pre y post he d hd with ⟨x, hx, _⟩ | hx
      · cases hx
      · exact hx) l.toArray.size (Array.replicate l.toArray.size false) a w.drew (by rw [hall, hlen])
      ⟨by simp, fun y hy => by
        rcases Nat.lt_or_ge y l.toArray.size with h | h
        · simp at h; simp [h] at hy
        · simp at h; simp [h] at hy⟩ (by rw [hall]; exact h)
  exact hs

theorem wpR_append_at {o : Oper} {rest : List (Oper × Tag)} {a : Act} {w : World} {row : Option Nat} {Q : Act → World → Prop} (hgd : o.guard = none) (s x : Operand) (t : TypeId)
    (ho : o.op = .call { callee := .builtin .append, args := #[s, x], argTypes := #[t, t] })
    (base : Nat) (e : TypeId) (i : TypeInfo) (z : Value) (size bytes : Nat) (ht : P.underlying t = some (.slice e)) (hi : P.info? e = some i) (hz : i.zero = some z)
    (hsize : i.size = size) (hby : i.bytes = bytes) (hzs : z.cells.size = size) (hsz : 0 < size)
    (v : Value) (n : Nat) (xs : List Value) (hs : a.eval s = v) (hown : w.ownsRow base e size v n xs) (hrow : v.ownBlock = row)
    (ad : Addr) (m c : Nat) (news : List Value) (hx : a.eval x = .slice (some ad) m c) (hl : news.length = m * size) (hnews : ∀ j u, news[j]? = some u → w.cell? (ad.add j) = some u) (h1 : ∀ u ∈ news, u.oneCell' = true)
    (h63 : n + m ≤ maxLen) (hbytes : (n + m) * bytes ≤ 140737488355328) (hbase : base ≤ w.heap.size)
    (h : ∀ v' w', w'.ownsRow base e size v' (n + m) (xs ++ news) → w.grownBy w' v.ownBlock → (v'.ownBlock = v.ownBlock ∨ v'.ownBlock = some w.heap.size) → wpR P ops row Q rest (a.put o.dst v') w') : wpR P ops row Q ((o, .g) :: rest) a w := by
  refine wpR_g fun K hK => ?_
  have hw : Region.wanted o (yielded ops a.tmps) = true := by simp [Region.wanted, hgd]
  rw [if_pos hw]
  obtain ⟨v', w', hrun, h2, h3, _, h4⟩ := run_append_own_at (P := P) w base t o.type e i z size bytes ht hi hz hsize hby hzs hsz v n xs hown ad m c news hl hnews h1 h63 hbytes hbase
  unfold execOp
  simp only [ho, resolve, invoke, builtin, Sem.run_bind, Sem.run_pure, Result.andThen_ok, List.map_toArray, List.map_cons, List.map_nil, hs, hx, hrun]
  exact ⟨hrow ▸ h3, hK _ _ (h v' w' h2 h3 h4)⟩
end
end Go.Proofs.Ytkppijcjmhkkkaa
/- Walks: the reference's connected parts, by places. -/




namespace Go.Proofs.Ytkppijcjmhkkkaa
open Go.RowKit Go.Shelf
attribute [local go_sem] BelowBy.cell BelowBy.cell_drew stillUpon givesUpon ByR.cell ByR.cell_drew

section
variable {nb : Nat → Nat → Option Nat} {n : Nat}
theorem visS_more {c : Nat} {st : List Nat × List Nat} : ∀ k, ∃ l, (visS nb c st k).1 = st.1 ++ l
  | 0 => ⟨[], by simp [visS]⟩
  | k + 1 => by
    obtain ⟨l, hl⟩ := visS_more (c := c) (st := st) k
    obtain ⟨m, hm⟩ := vis4_grow (nb := nb) (c := c) (st := visS nb c st k) k 4
    exact ⟨l ++ m, by simp only [visS]; rw [hm, hl, List.append_assoc]⟩
theorem allP_rng : ∀ (i v q : Nat), (allP nb n i).1[v]? = some q → q ≤ (allP nb n i).2.length
  | 0, v, q, h => by
    simp only [allP] at h ⊢
    have := List.mem_of_getElem? h
    rw [List.mem_replicate] at this
    omega
  | i + 1, v, q, h => by
    have ih := allP_rng i v
    by_cases h0 : (allP nb n i).1[i]? = some 0
    · obtain ⟨h1, h2⟩ := allP_yes (nb := nb) (n := n) (i := i) rfl rfl h0 rfl
      rw [h1] at h
      rw [h2, List.length_append]
      have hV := (VisInv.start (n := n) (Nat.succ_ne_zero (allP nb n i).2.length) (allP_len nb n i) h0).all (nb := nb) n
      by_cases hm : v ∈ (visS nb ((allP nb n i).2.length + 1) ([i], (allP nb n i).1.set i ((allP nb n i).2.length + 1)) n).1
      · have := hV.is v hm
        rw [h] at this
        injection this with this
        simp; omega
      · rw [hV.other v hm] at h
        have := ih q h
        simp; omega
    · rw [allP_no h0] at h ⊢
      exact ih q h
theorem allP_done : ∀ (i v : Nat), v < i → (allP nb n i).1[v]? ≠ some 0
  | 0, v, h => by omega
  | i + 1, v, h => by
    have ih := allP_done i v
    by_cases h0 : (allP nb n i).1[i]? = some 0
    · obtain ⟨h1, h2⟩ := allP_yes (nb := nb) (n := n) (i := i) rfl rfl h0 rfl
      rw [h1]
      have hV := (VisInv.start (n := n) (Nat.succ_ne_zero (allP nb n i).2.length) (allP_len nb n i) h0).all (nb := nb) n
      by_cases hm : v ∈ (visS nb ((allP nb n i).2.length + 1) ([i], (allP nb n i).1.set i ((allP nb n i).2.length + 1)) n).1
      · rw [hV.is v hm]
        intro hh
        injection hh with hh
        omega
      · rw [hV.other v hm]
        rcases Nat.lt_or_ge v i with hlt | hge
        · exact ih hlt
        · exfalso
          obtain rfl : v = i := by omega
          obtain ⟨l, hl⟩ := visS_more (nb := nb) (c := (allP nb n v).2.length + 1) (st := ([v], (allP nb n v).1.set v ((allP nb n v).2.length + 1))) n
          rw [hl] at hm
          simp at hm
    · rw [allP_no h0]
      rcases Nat.lt_or_ge v i with hlt | hge
      · exact ih hlt
      · obtain rfl : v = i := by omega
        exact h0
theorem allP_named {v : Nat} (hv : v < n) : ∃ q, (allP nb n n).1[v]? = some (q + 1) ∧ q < (allP nb n n).2.length := by
  obtain ⟨q, hq⟩ : ∃ q, (allP nb n n).1[v]? = some q := ⟨_, List.getElem?_eq_getElem (by rw [allP_len]; exact hv)⟩
  have h1 := allP_rng n v q hq
  have h2 := allP_done (nb := nb) (n := n) n v hv
  cases q with
  | zero => exact absurd hq h2
  | succ q => exact ⟨q, hq, by omega⟩
end
theorem vis1_none {ps : List Pt} {c k d u : Nat} {st : List Nat × List Nat} {e : Pt} (hu : st.1[k]? = some u) (he : ps[u]? = some e) (hl : idxP ps (stepX e.x d) (stepY e.y d) = none) : vis1 (nbP ps) c k d st = st := by
  unfold vis1 nbP
  rw [hu]
  simp only [he, hl]
theorem vis1_old {ps : List Pt} {c k d u v q : Nat} {st : List Nat × List Nat} {e : Pt} (hu : st.1[k]? = some u) (he : ps[u]? = some e) (hl : idxP ps (stepX e.x d) (stepY e.y d) = some v) (hv : st.2[v]? = some q) (hq : q ≠ 0) : vis1 (nbP ps) c k d st = st := by
  unfold vis1 nbP
  rw [hu]
  simp only [he, hl, hv, Option.some.injEq, if_neg hq]
theorem vis1_new {ps : List Pt} {c k d u v : Nat} {st : List Nat × List Nat} {e : Pt} (hu : st.1[k]? = some u) (he : ps[u]? = some e) (hl : idxP ps (stepX e.x d) (stepY e.y d) = some v) (hv : st.2[v]? = some 0) : vis1 (nbP ps) c k d st = (st.1 ++ [v], st.2.set v c) := by
  unfold vis1 nbP
  rw [hu]
  simp only [he, hl, hv, if_true]
theorem idxI_some {ps : List Pt} {x y : Int} {v : Nat} (h : idxP ps x y = some v) : idxI ps x y = (v : Int) := by
  unfold idxI; rw [h]
theorem idxI_none {ps : List Pt} {x y : Int} (h : idxP ps x y = none) : idxI ps x y = -1 := by
  unfold idxI; rw [h]
def numsV (l : List Nat) : List Value := l.map fun x => Value.int .i64 ((x : Nat) : Int)
theorem numsV_len (l : List Nat) : (numsV l).length = l.length := by simp [numsV]
theorem numsV_snoc (l : List Nat) (x : Nat) : numsV l ++ [Value.int .i64 (x : Int)] = numsV (l ++ [x]) := by simp [numsV]
theorem numsV_get {l : List Nat} {k x : Nat} (h : l[k]? = some x) : (numsV l)[k]? = some (.int .i64 (x : Int)) := by simp [numsV, h]
theorem numsV_set (l : List Nat) (k x : Nat) : (numsV l).set k (.int .i64 (x : Int)) = numsV (l.set k x) := by simp [numsV, List.map_set]
theorem infoRowQ : (Try.prog.info? 37).map (fun i => (i.zero, i.size, i.bytes)) = some (some (.slice none 0 0), 1, 24) := by kernel_rfl
def OwnNs (w : World) (gss : List (List Nat)) (e : Ending) (w' : World) : Prop := ∃ v us, e = .returned v ∧ Own2 w' w.heap.size 37 2 1 v us (gss.map numsV) ∧ Below w.heap.size w w'
/-- the places below t with name q + 1 -/
def nameL (nm : List Nat) (q t : Nat) : List Nat := (List.range t).filter fun i => decide (nm[i]? = some (q + 1))
theorem nameL_zero (nm : List Nat) (q : Nat) : nameL nm q 0 = [] := rfl
theorem nameL_yes {nm : List Nat} {q t : Nat} (h : nm[t]? = some (q + 1)) : nameL nm q (t + 1) = nameL nm q t ++ [t] := by
  unfold nameL; rw [List.range_succ, List.filter_append]; simp [h]
theorem nameL_no {nm : List Nat} {q t : Nat} (h : nm[t]? ≠ some (q + 1)) : nameL nm q (t + 1) = nameL nm q t := by
  unfold nameL; rw [List.range_succ, List.filter_append]; simp [h]
theorem nameL_len (nm : List Nat) (q t : Nat) : (nameL nm q t).length ≤ t := by
  have := List.length_filter_le (fun i => decide (nm[i]? = some (q + 1))) (List.range t)
  simpa [nameL] using this
def namesL (nm : List Nat) (c t : Nat) : List (List Nat) := (List.range c).map fun q => nameL nm q t
theorem namesL_get {nm : List Nat} {c t q : Nat} (h : q < c) : (namesL nm c t)[q]? = some (nameL nm q t) := by simp [namesL, h]
theorem namesL_zero (nm : List Nat) (c : Nat) : (namesL nm c 0).map numsV = List.replicate c [] := by
  apply List.ext_getElem?
  intro j
  by_cases hj : j < c
  · rw [List.getElem?_map, namesL_get hj, List.getElem?_replicate, if_pos hj]; simp [nameL, numsV]
  · rw [List.getElem?_eq_none (by simp [namesL]; omega), List.getElem?_eq_none (by simp; omega)]
theorem namesL_succ {nm : List Nat} {c t q : Nat} (h : nm[t]? = some (q + 1)) (hq : q < c) : namesL nm c (t + 1) = (namesL nm c t).set q (nameL nm q t ++ [t]) := by
  apply List.ext_getElem?
  intro j
  rw [List.getElem?_set]
  by_cases hj : j < c
  · rw [namesL_get hj, namesL_get hj]
    by_cases e : q = j
    · subst e
      rw [if_pos rfl, if_pos (by simp [namesL]; omega), nameL_yes h]
    · rw [if_neg e, nameL_no (by rw [h]; intro hh; injection hh with hh; omega)]
  · rw [List.getElem?_eq_none (by simp [namesL]; omega)]
    by_cases e : q = j
    · omega
    · rw [if_neg e, List.getElem?_eq_none (by simp [namesL]; omega)]
/-- the parts as the reference tells them -/
def partsN (ps : List Pt) : List (List Nat) := namesL (allP (nbP ps) ps.length ps.length).1 (allP (nbP ps) ps.length ps.length).2.length ps.length
theorem gby_setCell (w : World) (b o : Nat) (u : Value) : w.grownBy (w.setCell ⟨b, o, none⟩ u) (some b) :=
  ⟨rfl, rfl, rfl, by simp, fun i hi hne => Below.heap_setCell _ _ _ _ (fun e => hne (by rw [e]))⟩
theorem made_zero (n : Nat) : (madeCells #[Value.int .i64 0] n).toList = numsV (List.replicate n 0) := by
  apply List.ext_getElem?
  intro j
  by_cases hj : j < n
  · simp [madeCells, hj, numsV, Nat.mod_one]
  · rw [List.getElem?_eq_none (by rw [Array.length_toList, size_madeCells]; omega), List.getElem?_eq_none (by simp [numsV]; omega)]
theorem Own2.offs {w : World} {base : Nat} {T E : TypeId} {size : Nat} {v : Value} {us : List Value} {rows : List (List Value)} (h : Own2 w base T E size v us rows) {p : Nat} (hp : ∀ g, v.ownBlock = some g → g ≠ p) (hu : ∀ (k : Nat) (u : Value) (g : Nat), us[k]? = some u → u.ownBlock = some g → g ≠ p) (o : Nat) (x : Value) : Own2 (w.setCell ⟨p, o, none⟩ x) base T E size v us rows :=
  h.kept (gby_setCell w p o x) fun g e => by
    injection e with e
    subst e
    exact ⟨fun e' => hp _ e' rfl, fun k u hk e' => hu k u _ hk e' rfl⟩
theorem l01Step_to {x y X Y : Int} {d : Nat} (w : World) (hd : d < 4) (hx : -100 ≤ x ∧ x ≤ 100) (hy : -100 ≤ y ∧ y ≤ 100) (hX : stepX x (d : Nat) = X) (hY : stepY y (d : Nat) = Y) :
    Calls Try.prog 43 #[.agg #[.int .i64 x, .int .i64 y], .int .i64 (d : Int)] w fun e w' => e = .returned (.agg #[.int .i64 X, .int .i64 Y]) ∧ Below w.heap.size w w' := by
  rw [← hX, ← hY]
  exact l01Step_any _ _ _ _ ⟨by omega, by omega⟩ ⟨by omega, by omega⟩ ⟨by omega, by omega⟩
end Go.Proofs.Ytkppijcjmhkkkaa
/- Plain facts: bonds read from a row; flows. -/


namespace Go.Proofs.Ytkppijcjmhkkkaa
open Go.RowKit
def RBd (w : World) (b o : Nat) (e : Bd) : Prop := w.cell? ⟨b, o, none⟩ = some (.int .i64 (e.a : Int)) ∧ w.cell? ⟨b, o + 1, none⟩ = some (.int .i64 (e.b : Int)) ∧ w.cell? ⟨b, o + 2, none⟩ = some (.int .i64 e.s)
theorem RBd.stable : Stable RBd := fun _ _ _ _ _ h hb hw =>
  ⟨(hw.cell (by exact hb)).trans h.1, (hw.cell (by exact hb)).trans h.2.1, (hw.cell (by exact hb)).trans h.2.2⟩
theorem bdCells_get : ∀ (bs : List Bd) (k : Nat) (e : Bd), bs[k]? = some e → (bdCells bs)[k * 3]? = some (.int .i64 (e.a : Int)) ∧ (bdCells bs)[k * 3 + 1]? = some (.int .i64 (e.b : Int)) ∧ (bdCells bs)[k * 3 + 2]? = some (.int .i64 e.s)
  | [], k, e, h => by simp at h
  | b :: bs, 0, e, h => by
    simp at h
    subst h
    simp [bdCells]
  | b :: bs, k + 1, e, h => by
    have := bdCells_get bs k e (by simpa using h)
    have h3 : (k + 1) * 3 = k * 3 + 1 + 1 + 1 := by omega
    rw [h3]
    simpa [bdCells, Nat.add_assoc] using this
theorem rd_of_row {W : World} {base : Nat} {T : TypeId} {v : Value} {bs : List Bd} (h : W.ownsRow base T 3 v bs.length (bdCells bs)) : ∃ A cap, v = .slice A bs.length cap ∧ RdSl 3 RBd W A bs.length bs := by
  rcases h.2 with ⟨rfl, h0⟩ | ⟨g, cap, cur, rfl, hb, hh, hn, hm, hs, ht⟩
  · exact ⟨none, 0, by rw [h0], rfl, fun hp => by omega⟩
  · refine ⟨_, cap, rfl, rfl, fun hp => ⟨g, 0, rfl, (Array.getElem?_eq_some_iff.1 hh).1, fun k hk => ?_⟩⟩
    have hg := bdCells_get bs k _ (List.getElem?_eq_getElem hk)
    rw [← ht] at hg
    have hcell : ∀ j u, (cur.toList.take (bs.length * 3))[j]? = some u → W.cell? ⟨g, j, none⟩ = some u := fun j u hj => by
      rw [List.getElem?_take] at hj
      split at hj
      · simp only [World.cell?, hh]
        simpa using hj
      · cases hj
    rw [Nat.zero_add]
    exact ⟨hcell _ _ hg.1, hcell _ _ hg.2.1, hcell _ _ hg.2.2⟩
/-- what has left place t behind k bonds -/
def leaf (bs : List Bd) (fl : List Int) (t : Nat) : Nat → Int
  | 0 => 0
  | k + 1 => match bs[k]?, fl[k]? with
    | some b, some f => (leaf bs fl t k + (if t = b.a then f else 0)) - (if t = b.b then f else 0)
    | _, _ => leaf bs fl t k
theorem leaf_succ {bs : List Bd} {fl : List Int} {t k : Nat} {b : Bd} {f : Int} (hb : bs[k]? = some b) (hf : fl[k]? = some f) : leaf bs fl t (k + 1) = (leaf bs fl t k + (if t = b.a then f else 0)) - (if t = b.b then f else 0) := by
  simp only [leaf, hb, hf]
def okFlow (bs : List Bd) (fl : List Int) (k : Nat) : Bool := match bs[k]?, fl[k]? with
  | some b, some f => inB f (-b.s) b.s
  | _, _ => true
theorem okFlow_eq {bs : List Bd} {fl : List Int} {k : Nat} {b : Bd} {f : Int} (hb : bs[k]? = some b) (hf : fl[k]? = some f) : okFlow bs fl k = inB f (-b.s) b.s := by
  simp only [okFlow, hb, hf]
def okLeaf (bs : List Bd) (fl : List Int) (x y : Int) (t : Nat) : Bool := decide (leaf bs fl t bs.length = 0) || (decide ((t : Int) = x) || decide ((t : Int) = y))
noncomputable def checkFlowR (gs : List Gl) (ts : List Ti) (xs : List Pl) (x y : Int) (fl : List Int) : Int × Int :=
  if cutCodeI (validAsmB gs ts xs) xs.length x y ≠ 0 then (0, cutCodeI (validAsmB gs ts xs) xs.length x y)
  else if fl.length ≠ (bondsL gs ts xs).length then (0, 10)
  else if allB (bondsL gs ts xs).length (okFlow (bondsL gs ts xs) fl) = false then (0, 10)
  else if allB xs.length (okLeaf (bondsL gs ts xs) fl x y) = false then (0, 10)
  else (leaf (bondsL gs ts xs) fl x.toNat (bondsL gs ts xs).length, 0)
theorem strI_le {gs : List Gl} {ts : List Ti} {xs : List Pl} (hV : Valid gs ts xs) (v : Int) : strI gs v ≤ 4 := by
  unfold strI
  split
  · decide
  · split
    · decide
    · rename_i g hg
      exact (hV.str _ _ hg).2
theorem bondI_le {gs : List Gl} {ts : List Ti} {xs : List Pl} (hV : Valid gs ts xs) (a d b : Nat) : bondI gs ts a d b ≤ 4 := by
  unfold bondI
  split
  · exact strI_le hV _
  · decide
theorem bondsL_at {gs : List Gl} {ts : List Ti} {xs : List Pl} (hV : Valid gs ts xs) {k : Nat} {b : Bd} (h : (bondsL gs ts xs)[k]? = some b) : b.a < xs.length ∧ b.b < xs.length ∧ 0 < b.s ∧ b.s ≤ 4 := by
  have hm := List.mem_of_getElem? h
  unfold bondsL bdL at hm
  obtain ⟨⟨⟨i, j, d⟩, hi, hj, hd⟩, _, hx⟩ := List.mem_filterMap.1 hm
  split at hx
  · rename_i hp
    obtain rfl := Option.some.inj hx
    exact ⟨hi, hj, hp, bondI_le hV _ _ _⟩
  · cases hx
theorem nb_ne {xs : List Pl} {i d : Nat} (hd : d < 4) {x : NbT xs} (h : x ∈ nb xs i d) : x.1.1 ≠ x.1.2.1 := by
  unfold nb at h
  cases he : xs[i]? with
  | none => simp only [he] at h; cases h
  | some e =>
    simp only [he] at h
    split at h
    · rename_i hh
      obtain rfl := List.mem_singleton.1 h
      intro heq
      dsimp only at heq
      rcases placeI_is xs (stepX e.x d) (stepY e.y d) with ⟨h1, _⟩ | ⟨k, e', h1, he', hx, hy⟩
      · omega
      · have hk : k = i := by omega
        rw [hk, he] at he'
        obtain rfl := Option.some.inj he'
        unfold stepX at hx
        unfold stepY at hy
        have : d = 0 ∨ d = 1 ∨ d = 2 ∨ d = 3 := by omega
        rcases this with rfl | rfl | rfl | rfl <;> simp at hx hy <;> omega
    · cases h
theorem nbAll_ne {xs : List Pl} {n : Nat} {x : NbT xs} (h : x ∈ nbAll xs n) : x.1.1 ≠ x.1.2.1 := by
  induction n with
  | zero => simp [nbAll] at h
  | succ n ih =>
    simp only [nbAll, List.mem_append] at h
    rcases h with h | h | h
    · exact ih h
    · exact nb_ne (by decide) h
    · exact nb_ne (by decide) h
theorem bondsL_ne {gs : List Gl} {ts : List Ti} {xs : List Pl} {k : Nat} {b : Bd} (h : (bondsL gs ts xs)[k]? = some b) : b.a ≠ b.b := by
  have hm := List.mem_of_getElem? h
  unfold bondsL bdL at hm
  obtain ⟨x, hx, hb⟩ := List.mem_filterMap.1 hm
  have := nbAll_ne hx
  split at hb
  · obtain rfl := Option.some.inj hb
    exact this
  · cases hb
theorem cutCodeI_zero {v : Bool} {n x y : Int} (h : cutCodeI v n x y = 0) : v = true ∧ (0 ≤ x ∧ x ≤ n - 1) ∧ (0 ≤ y ∧ y ≤ n - 1) ∧ x ≠ y := by
  unfold cutCodeI at h
  split at h
  · split at h
    · rename_i hv hc
      simp only [Bool.and_eq_true, inB_true, Bool.not_eq_true', beq_eq_false_iff_ne] at hc
      exact ⟨hv, hc.1, hc.2.1, hc.2.2⟩
    · cases h
  · cases h
theorem bondsL_len {gs : List Gl} {ts : List Ti} {xs : List Pl} (hV : Valid gs ts xs) : (bondsL gs ts xs).length ≤ 1000 := by
  have h1 := bdL_len gs ts (nbAll xs xs.length)
  have h2 := nbAll_len xs xs.length
  have h3 := hV.len
  unfold bondsL
  omega
theorem leaf_bound {bs : List Bd} {fl : List Int} {k : Nat} (hs : ∀ (j : Nat) (b : Bd), bs[j]? = some b → b.s ≤ 4) (h : ∀ j, j < k → okFlow bs fl j = true) (t : Nat) : -(8 * (k : Int)) ≤ leaf bs fl t k ∧ leaf bs fl t k ≤ 8 * (k : Int) := by
  induction k with
  | zero => simp [leaf]
  | succ k ih =>
    have ih := ih (fun j hj => h j (by omega))
    have hk := h k (by omega)
    cases hb : bs[k]? with
    | none => simp only [leaf, hb]; omega
    | some b =>
      cases hf : fl[k]? with
      | none => simp only [leaf, hb, hf]; omega
      | some f =>
        rw [leaf_succ hb hf]
        rw [okFlow_eq hb hf, inB_true] at hk
        have := hs k b hb
        split <;> split <;> omega
end Go.Proofs.Ytkppijcjmhkkkaa
