/- A rule for regions that draw their order, with one row of the call's own that an append grows: the other operations read only what an append leaves alone. -/
import Derived.Test.YtpnahobgmemdjaaOrdApp
import Derived.Maps.AppendAt
namespace Go.Proofs.Ytpnahobgmemdjaa
open Go.RowKit
set_option linter.unusedSimpArgs false
set_option linter.unusedVariables false
theorem gby_refl (w : World) (row : Option Nat) : w.grownBy w row := ⟨rfl, rfl, rfl, Nat.le_refl _, fun _ _ _ => rfl⟩
theorem gby_trans {w w1 w2 : World} {row : Option Nat} (h : w.grownBy w1 row) (h2 : w1.grownBy w2 row) : w.grownBy w2 row :=
  ⟨h2.os.trans h.os, h2.tape.trans h.tape, h2.output.trans h.output, Nat.le_trans h.size h2.size, fun k hk hne => (h2.block k (Nat.lt_of_lt_of_le hk h.size) hne).trans (h.block k hk hne)⟩
/-- A world that is w below w's heap, but for one block. -/
structure ByR (row : Option Nat) (w : World) where
  world : World
  h : w.grownBy world row
instance (row : Option Nat) (w : World) : Inhabited (ByR row w) := ⟨⟨w, gby_refl _ _⟩⟩
theorem ByR.cell {row : Option Nat} {W : World} (p : ByR row W) (b o : Nat) (h : b < W.heap.size) (hr : ¬ some b = row) : p.world.cell? ⟨b, o, none⟩ = W.cell? ⟨b, o, none⟩ := World.cell?_of_block (w := W) (a := ⟨b, o, none⟩) (p.h.block b h hr)
theorem ByR.cell_drew {row : Option Nat} {W : World} (p : ByR row W.drew) (b o : Nat) (h : b < W.heap.size) (hr : ¬ some b = row) : p.world.cell? ⟨b, o, none⟩ = W.cell? ⟨b, o, none⟩ := p.cell b o h hr
section
variable {P : Program} {ops : Array Oper} {row : Option Nat}

def wpR (P : Program) (ops : Array Oper) (row : Option Nat) (Q : Act → World → Prop) : List (Oper × Tag) → Act → World → Prop
  | [], a, w => Q a w
  | (o, .q) :: rest, a, w =>
    if Region.wanted o (yielded ops a.tmps) then ∃ v, (∀ p : ByR row w, stillUpon p.world v ((execOp a.eval o).run P p.world)) ∧ wpR P ops row Q rest (a.put o.dst v) w
    else wpR P ops row Q rest (a.put o.dst undef) w
  | (o, .g) :: rest, a, w =>
    if Region.wanted o (yielded ops a.tmps) then givesUpon P (fun v w' => w.grownBy w' row ∧ wpR P ops row Q rest (a.put o.dst v) w') ((execOp a.eval o).run P w)
    else wpR P ops row Q rest (a.put o.dst undef) w
  | (o, .b) :: rest, a, w =>
    if Region.wanted o (yielded ops a.tmps) then givesUpon P (fun v w' => wpR P ops row Q rest (a.put o.dst v) w') ((execOp a.eval o).run P w)
    else wpR P ops row Q rest (a.put o.dst undef) w
  | (o, .p) :: rest, a, w =>
    if Region.wanted o (yielded ops a.tmps) then ∃ v, (∀ W : World, stillUpon W v ((execOp a.eval o).run P W)) ∧ wpR P ops row Q rest (a.put o.dst v) w
    else wpR P ops row Q rest (a.put o.dst undef) w

/-- Behind a name that simp does not open. -/
def GrewR (row : Option Nat) (w w' : World) : Prop := w.grownBy w' row
theorem GrewR.of_alloc {row : Option Nat} {w : World} (o : Obj) : GrewR row w (w.alloc o) := World.grownBy_alloc w o row

/-- One operation at a time, what follows behind a variable. -/
theorem wpR_q {Q : Act → World → Prop} {o : Oper} {rest : List (Oper × Tag)} {a : Act} {w : World}
    (h : ∀ K : Act → Prop, (∀ a, wpR P ops row Q rest a w → K a) → if Region.wanted o (yielded ops a.tmps) then ∃ v, (∀ p : ByR row w, stillUpon p.world v ((execOp a.eval o).run P p.world)) ∧ K (a.put o.dst v) else K (a.put o.dst undef)) :
    wpR P ops row Q ((o, .q) :: rest) a w := h _ fun _ h => h
theorem wpR_g {Q : Act → World → Prop} {o : Oper} {rest : List (Oper × Tag)} {a : Act} {w : World}
    (h : ∀ K : Act → World → Prop, (∀ a w', wpR P ops row Q rest a w' → K a w') → if Region.wanted o (yielded ops a.tmps) then givesUpon P (fun v w' => GrewR row w w' ∧ K (a.put o.dst v) w') ((execOp a.eval o).run P w) else K (a.put o.dst undef) w) :
    wpR P ops row Q ((o, .g) :: rest) a w := h _ fun _ _ h => h
theorem wpR_b {Q : Act → World → Prop} {o : Oper} {rest : List (Oper × Tag)} {a : Act} {w : World}
    (h : ∀ K : Act → World → Prop, (∀ a w', wpR P ops row Q rest a w' → K a w') → if Region.wanted o (yielded ops a.tmps) then givesUpon P (fun v w' => K (a.put o.dst v) w') ((execOp a.eval o).run P w) else K (a.put o.dst undef) w) :
    wpR P ops row Q ((o, .b) :: rest) a w := h _ fun _ _ h => h
theorem wpR_p {Q : Act → World → Prop} {o : Oper} {rest : List (Oper × Tag)} {a : Act} {w : World}
    (h : ∀ K : Act → Prop, (∀ a, wpR P ops row Q rest a w → K a) → if Region.wanted o (yielded ops a.tmps) then ∃ v, (∀ W : World, stillUpon W v ((execOp a.eval o).run P W)) ∧ K (a.put o.dst v) else K (a.put o.dst undef)) :
    wpR P ops row Q ((o, .p) :: rest) a w := h _ fun _ h => h
theorem wpR_nil {Q : Act → World → Prop} {a : Act} {w : World} (h : Q a w) : wpR P ops row Q [] a w := h

theorem exchR {Q : Act → World → Prop} {oj : Oper} {tj : Tag} {post : List (Oper × Tag)} (hsj : ∀ cs b, oj.op ≠ .select cs b) : ∀ (pre : List (Oper × Tag)) (a : Act) (w : World),
    (∀ x ∈ pre, (x.2 = .q ∨ x.2 = .p) ∧ x.1.apart ops oj = true ∧ ∀ cs b, x.1.op ≠ .select cs b) → (tj = .b → ∀ x ∈ pre, x.2 = .p) → wpR P ops row Q (pre ++ (oj, tj) :: post) a w →
    opStep P ops oj (fun v w' => (tj ≠ .b → w.grownBy w' row) ∧ wpR P ops row Q (pre ++ post) (a.put oj.dst v) w') a w
  | [], a, w, _, _, h => by
    unfold opStep
    simp only [List.nil_append] at h ⊢
    cases tj <;> simp only [wpR] at h <;> split at h <;> rename_i hw <;> simp only [hw, if_true, if_false, Bool.false_eq_true]
    · obtain ⟨v, h1, h2⟩ := h
      exact givesUpon_of_still (h1 ⟨w, gby_refl _ _⟩) ⟨fun _ => gby_refl _ _, h2⟩
    · exact ⟨fun _ => gby_refl _ _, h⟩
    · exact givesUpon_mono h fun v w' hh => ⟨fun _ => hh.1, hh.2⟩
    · exact ⟨fun _ => gby_refl _ _, h⟩
    · exact givesUpon_mono h fun v w' hh => ⟨fun hn => absurd rfl hn, hh⟩
    · exact ⟨fun _ => gby_refl _ _, h⟩
    · obtain ⟨v, h1, h2⟩ := h
      exact givesUpon_of_still (h1 w) ⟨fun _ => gby_refl _ _, h2⟩
    · exact ⟨fun _ => gby_refl _ _, h⟩
  | (op, t) :: pre, a, w, hp, hb, h => by
    obtain ⟨ht, hap, hsp⟩ := hp (op, t) (by simp)
    simp only at ht hap hsp
    obtain ⟨h1, h2, h3⟩ := Oper.apart_spec hap
    have hp' : ∀ x ∈ pre, (x.2 = .q ∨ x.2 = .p) ∧ x.1.apart ops oj = true ∧ ∀ cs b, x.1.op ≠ .select cs b := fun x hx => hp x (by simp [hx])
    have hb' : tj = .b → ∀ x ∈ pre, x.2 = .p := fun e x hx => hb e x (by simp [hx])
    have key : ∀ v, (∀ w', (tj ≠ .b → w.grownBy w' row) → ∀ u, wpR P ops row Q (pre ++ post) ((a.put oj.dst u).put op.dst v) w' → wpR P ops row Q ((op, t) :: (pre ++ post)) (a.put oj.dst u) w') →
        wpR P ops row Q (pre ++ (oj, tj) :: post) (a.put op.dst v) w → opStep P ops oj (fun v w' => (tj ≠ .b → w.grownBy w' row) ∧ wpR P ops row Q ((op, t) :: pre ++ post) (a.put oj.dst v) w') a w := by
      intro v hk hh
      have ih := exchR hsj pre (a.put op.dst v) w hp' hb' hh
      unfold opStep at ih ⊢
      rw [wanted_put oj a op.dst v h1, execOp_put oj hsj a op.dst v h1] at ih
      split at ih <;> rename_i hw <;> simp only [hw, if_true, if_false, Bool.false_eq_true]
      · refine givesUpon_mono ih fun u w' hh' => ⟨hh'.1, hk w' hh'.1 u ?_⟩
        rw [← Act.put_comm a v u h2]; exact hh'.2
      · refine ⟨ih.1, hk w (fun _ => gby_refl _ _) undef ?_⟩
        rw [← Act.put_comm a v undef h2]; exact ih.2
    rcases ht with rfl | rfl
    · have hnb : tj ≠ .b := fun e => by have := hb e (op, .q) (by simp); cases this
      simp only [List.cons_append, wpR] at h
      split at h
      · rename_i hw
        obtain ⟨v, hv, hrest⟩ := h
        refine key v (fun w' hbw u hr => ?_) hrest
        have hbw := hbw hnb
        simp only [wpR]
        rw [wanted_put op a oj.dst u h3, if_pos hw, execOp_put op hsp a oj.dst u h3]
        exact ⟨v, fun p => hv ⟨p.world, gby_trans hbw p.h⟩, hr⟩
      · rename_i hw
        refine key undef (fun w' hbw u hr => ?_) h
        simp only [wpR]
        rw [wanted_put op a oj.dst u h3, if_neg hw]
        exact hr
    · simp only [List.cons_append, wpR] at h
      split at h
      · rename_i hw
        obtain ⟨v, hv, hrest⟩ := h
        refine key v (fun w' hbw u hr => ?_) hrest
        simp only [wpR]
        rw [wanted_put op a oj.dst u h3, if_pos hw, execOp_put op hsp a oj.dst u h3]
        exact ⟨v, hv, hr⟩
      · rename_i hw
        refine key undef (fun w' hbw u hr => ?_) h
        simp only [wpR]
        rw [wanted_put op a oj.dst u h3, if_neg hw]
        exact hr

theorem ord_soundR {Q : Exit → Act → World → Prop} (ord : List (Nat × Tag)) (hsel : Region.noSelect ops = true) (hcov : ∀ i, i < ops.size → ∃ x ∈ ord, x.1 = i)
    (hpw : ord.Pairwise (Rel2 ops)) (hsome : ∀ y ∈ ord, (ops[y.1]?).isSome = true) (htop : ∀ pre y post, ord = pre ++ y :: post → ∀ d ∈ depsOf ops y.1, ∃ x ∈ pre, x.1 = d) :
    ∀ (m : Nat) (listed : Array Bool) (a : Act) (w : World), (rem ord listed).length = m → Ideal ops listed → wpR P ops row (Q .normal) (pick ops (rem ord listed)) a w → wpAny P .any ops Q m listed a w := by
  have hlt : ∀ y ∈ ord, y.1 < ops.size := fun y hy => by
    have := hsome y hy
    rw [Option.isSome_iff_exists] at this
    obtain ⟨o, ho⟩ := this
    exact (Array.getElem?_eq_some_iff.1 ho).1
  intro m
  induction m with
  | zero =>
    intro listed a w hm hid h
    have hnil : rem ord listed = [] := List.eq_nil_of_length_eq_zero hm
    refine ⟨?_, by rw [hnil] at h; exact h⟩
    apply List.eq_nil_iff_forall_not_mem.2
    intro j hj
    obtain ⟨h1, h2, _⟩ := ready_deps hj
    obtain ⟨x, hx, rfl⟩ := hcov j h1
    have : x ∈ rem ord listed := List.mem_filter.2 ⟨hx, by simpa using h2⟩
    rw [hnil] at this
    cases this
  | succ m ih =>
    intro listed a w hm hid h
    refine ⟨fun h0 => ?_, fun j hj => ?_⟩
    · -- the first that has not come up is ready
      exfalso
      obtain ⟨y, rest, hrem⟩ : ∃ y rest, rem ord listed = y :: rest := by
        cases hr : rem ord listed with
        | nil => rw [hr] at hm; cases hm
        | cons y rest => exact ⟨y, rest, rfl⟩
      obtain ⟨pre, post, hord, hpre⟩ := List.filter_eq_cons_iff.1 hrem
      have hy : y ∈ ord := by rw [hord]; simp
      obtain ⟨o, ho⟩ := Option.isSome_iff_exists.1 (hsome y hy)
      have hun : listed.getD y.1 true = false := by
        have : y ∈ rem ord listed := by rw [hrem]; simp
        simpa using (List.mem_filter.1 this).2
      have : y.1 ∈ Region.ready .any ops listed := ready_of ho hun fun d hd => by
        obtain ⟨x, hx, rfl⟩ := htop pre y post hord d hd
        have h1 := hpre.1 x hx
        have hxl : x.1 < listed.size := by rw [hid.size]; exact hlt x (by rw [hord]; simp [hx])
        rw [← getD_tf hxl]
        simpa using h1
      rw [h0] at this
      cases this
    · obtain ⟨h1, h2, h3⟩ := ready_deps hj
      obtain ⟨x, hx, rfl⟩ := hcov j h1
      have hxr : x ∈ rem ord listed := List.mem_filter.2 ⟨hx, by simpa using h2⟩
      obtain ⟨pre, post, hsplit⟩ := List.append_of_mem hxr
      have hpwr : (rem ord listed).Pairwise (Rel2 ops) := hpw.filter _
      rw [hsplit, List.pairwise_append] at hpwr
      obtain ⟨_, hpc, hcross⟩ := hpwr
      obtain ⟨oj, hoj⟩ := Option.isSome_iff_exists.1 (hsome x hx)
      have hpre : ∀ y ∈ pre, Rel2 ops y x ∧ listed.getD y.1 false = false ∧ y ∈ ord := fun y hy => by
        have hyr : y ∈ rem ord listed := by rw [hsplit]; simp [hy]
        obtain ⟨hyo, hyu⟩ := List.mem_filter.1 hyr
        have hyl : y.1 < listed.size := by rw [hid.size]; exact hlt y hyo
        exact ⟨hcross y hy x (by simp), by rw [← getD_tf hyl]; simpa using hyu, hyo⟩
      have hno : ∀ y ∈ pre, ¬ Anc ops x.1 y.1 := fun y hy ha => by
        have := hid.anc ha h3
        rw [(hpre y hy).2.1] at this
        cases this
      have hstep := exchR (row := row) (P := P) (Q := Q .normal) (oj := oj) (tj := x.2) (post := pick ops post) (fun cs b => Region.noSelect_spec hsel x.1 oj cs b hoj) (pick ops pre) a w
        (by
          intro z hz
          obtain ⟨y, hy, hyz⟩ := List.mem_filterMap.1 hz
          obtain ⟨oy, hoy⟩ := Option.isSome_iff_exists.1 (hsome y (hpre y hy).2.2)
          rw [hoy] at hyz
          simp only [Option.map_some, Option.some.injEq] at hyz
          subst hyz
          refine ⟨?_, ?_, fun cs b => Region.noSelect_spec hsel y.1 oy cs b hoy⟩
          · cases hq : y.2 with
            | q => exact Or.inl rfl
            | p => exact Or.inr rfl
            | g => exact absurd ((hpre y hy).1.anc (by rw [hq]; rfl)) (hno y hy)
            | b => exact absurd ((hpre y hy).1.anc (by rw [hq]; rfl)) (hno y hy)
          · rcases (hpre y hy).1.apart with hd | hd
            · exact absurd (.one hd) (hno y hy)
            · unfold apartB at hd
              rw [hoy, hoj] at hd
              exact hd)
        (by
          intro hb z hz
          obtain ⟨y, hy, hyz⟩ := List.mem_filterMap.1 hz
          obtain ⟨oy, hoy⟩ := Option.isSome_iff_exists.1 (hsome y (hpre y hy).2.2)
          rw [hoy] at hyz
          simp only [Option.map_some, Option.some.injEq] at hyz
          subst hyz
          cases hq : y.2 with
          | p => rfl
          | q => exact absurd ((hpre y hy).1.anc (by rw [hq, hb]; rfl)) (hno y hy)
          | g => exact absurd ((hpre y hy).1.anc (by rw [hq]; rfl)) (hno y hy)
          | b => exact absurd ((hpre y hy).1.anc (by rw [hq]; rfl)) (hno y hy))
        (by
          have e : pick ops (rem ord listed) = pick ops pre ++ (oj, x.2) :: pick ops post := by
            rw [hsplit]; unfold pick; simp [List.filterMap_append, hoj]
          rw [← e]; exact h)
      have hrem' : rem ord (listed.setIfInBounds x.1 true) = pre ++ post := by
        have hx1 : x.1 < listed.size := by rw [hid.size]; exact h1
        have e1 : rem ord (listed.setIfInBounds x.1 true) = (rem ord listed).filter fun y => y.1 != x.1 := by
          unfold rem
          rw [List.filter_filter]
          apply List.filter_congr
          intro y hy
          by_cases hyx : x.1 = y.1
          · rw [← hyx]; simp [hx1]
          · have hne : (y.1 != x.1) = true := by simpa using fun h => hyx h.symm
            rw [getD_set_ne true hyx, hne]; simp
        rw [e1, hsplit, List.filter_append, List.filter_cons]
        have hp : pre.filter (fun y => y.1 != x.1) = pre := List.filter_eq_self.2 fun y hy => by simpa using (hpre y hy).1.ne
        have hq : post.filter (fun y => y.1 != x.1) = post := List.filter_eq_self.2 fun y hy => by
          have := (List.pairwise_cons.1 hpc).1 y hy
          simpa using fun e => this.ne e.symm
        rw [hp, hq]; simp
      refine wpOp_of_step hoj ?_
      have hlen : (pre ++ post).length = m := by
        have := hm
        rw [hsplit] at this
        simp at this ⊢
        omega
      have hid' : Ideal ops (listed.setIfInBounds x.1 true) := by
        refine ⟨by simp [hid.size], fun y hy d hd => ?_⟩
        by_cases hxy : x.1 = y
        · subst hxy; exact getD_set_true (h3 d hd)
        · rw [getD_set_ne false hxy] at hy
          exact getD_set_true (hid.closed y hy d hd)
      unfold opStep at hstep ⊢
      have e2 : ∀ v w', wpR P ops row (Q .normal) (pick ops pre ++ pick ops post) (a.put oj.dst v) w' → wpAny P .any ops Q m (listed.setIfInBounds x.1 true) (a.put oj.dst v) w' := fun v w' hh =>
        ih _ _ _ (by rw [hrem']; exact hlen) hid' (by rw [hrem']; unfold pick at hh ⊢; rw [List.filterMap_append]; exact hh)
      split at hstep <;> rename_i hw <;> simp only [hw, if_true, if_false, Bool.false_eq_true]
      · exact givesUpon_mono hstep fun v w' hh => e2 v w' hh.2
      · exact e2 _ _ hstep.2

/-- **The rule.** -/
theorem wp_region_row (row : Option Nat) {id : Nat} {Q : Exit → Act → World → Prop} {a : Act} {w : World} {l : List Oper} (ord : List (Nat × Tag)) (hm : P.follows .mixedOrders = true) (hB : ordB l.toArray ord = true)
    (h : wpR P l.toArray row (Q .normal) (pick l.toArray ord) a w.drew) : (Code.region id l.toArray true).wp P Q a w := by
  simp only [ordB, Bool.and_eq_true, beq_iff_eq] at hB
  obtain ⟨⟨⟨hsel, hlen⟩, hcov⟩, hfrom⟩ := hB
  obtain ⟨hpw, _, hsome, htop⟩ := ordFrom_spec ord [] hfrom (fun _ h => by cases h)
  refine wp_region_any hm ?_
  have hall : rem ord (Array.replicate l.toArray.size false) = ord := List.filter_eq_self.2 fun y hy => by
    obtain ⟨o, ho⟩ := Option.isSome_iff_exists.1 (hsome y hy)
    have := (Array.getElem?_eq_some_iff.1 ho).1
    simp at this
    simp [this]
  have hs := ord_soundR (row := row) (P := P) (Q := Q) ord hsel (fun i hi => by
    have := List.all_eq_true.1 hcov i (List.mem_range.2 hi)
    obtain ⟨x, hx, hxi⟩ := List.any_eq_true.1 this
    exact ⟨x, hx, by simpa using hxi⟩) hpw hsome (fun pre y post he d hd => by
      rcases htop pre y post he d hd with ⟨x, hx, _⟩ | hx
      · cases hx
      · exact hx) l.toArray.size (Array.replicate l.toArray.size false) a w.drew (by rw [hall, hlen])
      ⟨by simp, fun y hy => by
        rcases Nat.lt_or_ge y l.toArray.size with h | h
        · simp at h; simp [h] at hy
        · simp at h; simp [h] at hy⟩ (by rw [hall]; exact h)
  exact hs

theorem wpR_append_at {o : Oper} {rest : List (Oper × Tag)} {a : Act} {w : World} {row : Option Nat} {Q : Act → World → Prop} (hgd : o.guard = none) (s x : Operand) (t : TypeId)
    (ho : o.op = .call { callee := .builtin .append, args := #[s, x], argTypes := #[t, t] })
    (base : Nat) (e : TypeId) (i : TypeInfo) (z : Value) (size bytes : Nat) (ht : P.underlying t = some (.slice e)) (hi : P.info? e = some i) (hz : i.zero = some z)
    (hsize : i.size = size) (hby : i.bytes = bytes) (hzs : z.cells.size = size) (hsz : 0 < size)
    (v : Value) (n : Nat) (xs : List Value) (hs : a.eval s = v) (hown : w.ownsRow base e size v n xs) (hrow : v.ownBlock = row)
    (ad : Addr) (m c : Nat) (news : List Value) (hx : a.eval x = .slice (some ad) m c) (hl : news.length = m * size) (hnews : ∀ j u, news[j]? = some u → w.cell? (ad.add j) = some u) (h1 : ∀ u ∈ news, u.oneCell' = true)
    (h63 : n + m ≤ maxLen) (hbytes : (n + m) * bytes ≤ 140737488355328) (hbase : base ≤ w.heap.size)
    (h : ∀ v' w', w'.ownsRow base e size v' (n + m) (xs ++ news) → w.grownBy w' v.ownBlock → (v'.ownBlock = v.ownBlock ∨ v'.ownBlock = some w.heap.size) → wpR P ops row Q rest (a.put o.dst v') w') : wpR P ops row Q ((o, .g) :: rest) a w := by
  refine wpR_g fun K hK => ?_
  have hw : Region.wanted o (yielded ops a.tmps) = true := by simp [Region.wanted, hgd]
  rw [if_pos hw]
  obtain ⟨v', w', hrun, h2, h3, _, h4⟩ := run_append_own_at (P := P) w base t o.type e i z size bytes ht hi hz hsize hby hzs hsz v n xs hown ad m c news hl hnews h1 h63 hbytes hbase
  unfold execOp
  simp only [ho, resolve, invoke, builtin, Sem.run_bind, Sem.run_pure, Result.andThen_ok, List.map_toArray, List.map_cons, List.map_nil, hs, hx, hrun]
  exact ⟨hrow ▸ h3, hK _ _ (h v' w' h2 h3 h4)⟩
end
end Go.Proofs.Ytpnahobgmemdjaa
