import Derived.Test.YthieodccakphiaaGreatKP
import Derived.Test.YthieodccakphiaaGreatW1
import Derived.Test.YthieodccakphiaaGreatOrdApp
import Derived.Maps.AppendAt
import Derived.Deep.Cut
set_option linter.unusedSimpArgs false
set_option linter.unusedVariables false
/- Walks: the first pair of groups; two groups put together. -/


namespace Go.Proofs.YthieodccakphiaaGreat
open Go.RowKit Go.Shelf
attribute [local go_sem] BelowBy.cell BelowBy.cell_drew stillUpon givesUpon BelowBy.cell_drew2 BelowBy.cell_drew3

def PairRes (w : World) (n : Nat) (M : Nat → Nat → Int) (T : Int) (e : Ending) (w' : World) : Prop :=
  ((∃ i k : Nat, IsFirst n M T i k ∧ e = .returned (.tuple #[.int .i64 (i : Int), .int .i64 (k : Int), .bool true])) ∨ (NoPair n M T ∧ e = .returned (.tuple #[.int .i64 0, .int .i64 0, .bool false]))) ∧ w' = w
set_option maxRecDepth 100000 in
set_option maxHeartbeats 2000000 in
theorem pair_any (base p n : Nat) (vG vB : Value) (xs us : List Value) (M : Nat → Nat → Int) (T : Int) (w : World) (h : Gr w base p n vG vB xs us (rowsZ M n n)) (hn : n ≤ 100000) :
    Calls Tryz.prog 63 #[.pointer (some ⟨p, 0, none⟩), .int .i64 T] w (PairRes w n M T) := by
  have c0 := h.c0
  have c1 := h.c1
  have hl := h.lt
  have hB : Mat w base vB us n M := h.B
  obtain ⟨AG, capG, rfl⟩ := ownsRow_form h.G
  have hBH := Lib.hid hB
  clear h hB
  go_enter Tryz.func63, Tryz.ntmps63
  go_wp2
  go_loopg [14] n (fun r x wr => ∃ i : Nat, i + r = n ∧ x = .int .i64 (i : Int) ∧ Hid (∀ a b, a < i → a < b → b < n → M a b < T) ∧ w = wr)
  case atStart => exact ⟨0, by omega, rfl, Lib.hid (fun a b h => by omega), rfl⟩
  case round =>
    obtain ⟨i, hi, rfl, hno, rfl⟩ := hrel
    by_cases hin : i < n
    · obtain ⟨g, cap, g', cap', rfl, d1, l1, l2, _, _, _, _, dc⟩ := hBH.out.at hin
      have dcH := Lib.hid dc
      clear dc
      go_wp2_with fail
      go_loopg [8] (n - (i + 1)) (fun r x wr => ∃ k : Nat, k + r = n ∧ x = .int .i64 (k : Int) ∧ i < k ∧ Hid (∀ b, i < b → b < k → M i b < T) ∧ w = wr)
      case atStart => exact ⟨i + 1, by omega, by go_num, by omega, Lib.hid (fun b h1 h2 => by omega), rfl⟩
      case round =>
        obtain ⟨k, hk, rfl, hik, hnk, rfl⟩ := hrel
        by_cases hkn : k < n
        · have d2 := dcH.out k hkn
          obtain ⟨r, hr⟩ : ∃ r, M i k = r := ⟨_, rfl⟩
          rw [hr] at d2
          have hrH := Lib.hid hr
          clear hr
          by_cases hT : T ≤ r
          · go_wp2_with fail
            go_ret3
            exact ⟨.inl ⟨i, k, ⟨hik, hkn, by rw [hrH.out]; exact hT, hnk.out, fun a ha b hb hbn => hno.out a b ha hb hbn⟩, rfl⟩, rfl⟩
          · have hT2 : r < T := by omega
            go_wp2_with fail
            go_roundg (n - (k + 1))
            case measure => omega
            case rel => exact ⟨k + 1, by omega, by go_num, by omega, Lib.hid (fun b h1 h2 => by
                rcases Nat.lt_succ_iff_lt_or_eq.1 h2 with h2 | rfl
                · exact hnk.out b h1 h2
                · rw [hrH.out]; exact hT2), rfl⟩
        · obtain rfl : k = n := by omega
          go_wp2_with fail
          go_roundg (k - (i + 1))
          case measure => omega
          case rel => exact ⟨i + 1, by omega, by go_num, Lib.hid (fun a b h1 h2 h3 => by
              rcases Nat.lt_succ_iff_lt_or_eq.1 h1 with h1 | rfl
              · exact hno.out a b h1 h2 h3
              · exact hnk.out b h2 h3), rfl⟩
    · obtain rfl : i = n := by omega
      go_wp2_with fail
      go_ret3
      exact ⟨.inr ⟨fun a b h1 h2 => hno.out a b (by omega) h1 h2, rfl⟩, rfl⟩
end Go.Proofs.YthieodccakphiaaGreat
/- A rule for regions that draw their order, with one row of the call's own that an append grows: the other operations read only what an append leaves alone. -/


namespace Go.Proofs.YthieodccakphiaaGreat
open Go.RowKit
theorem gby_refl (w : World) (row : Option Nat) : w.grownBy w row := ⟨rfl, rfl, rfl, Nat.le_refl _, fun _ _ _ => rfl⟩
theorem gby_trans {w w1 w2 : World} {row : Option Nat} (h : w.grownBy w1 row) (h2 : w1.grownBy w2 row) : w.grownBy w2 row :=
  ⟨h2.os.trans h.os, h2.tape.trans h.tape, h2.output.trans h.output, Nat.le_trans h.size h2.size, fun k hk hne => (h2.block k (Nat.lt_of_lt_of_le hk h.size) hne).trans (h.block k hk hne)⟩
/-- A world that is w below w's heap, but for one block. -/
structure ByR (row : Option Nat) (w : World) where
  world : World
  h : w.grownBy world row
instance (row : Option Nat) (w : World) : Inhabited (ByR row w) := ⟨⟨w, gby_refl _ _⟩⟩
theorem ByR.cell {row : Option Nat} {W : World} (p : ByR row W) (b o : Nat) (h : b < W.heap.size) (hr : ¬ some b = row) : p.world.cell? ⟨b, o, none⟩ = W.cell? ⟨b, o, none⟩ := World.cell?_of_block (w := W) (a := ⟨b, o, none⟩) (p.h.block b h hr)
theorem ByR.cell_drew {row : Option Nat} {W : World} (p : ByR row W.drew) (b o : Nat) (h : b < W.heap.size) (hr : ¬ some b = row) : p.world.cell? ⟨b, o, none⟩ = W.cell? ⟨b, o, none⟩ := p.cell b o h hr
section
variable {P : Program} {ops : Array Oper} {row : Option Nat}

def wpR (P : Program) (ops : Array Oper) (row : Option Nat) (Q : Act → World → Prop) : List (Oper × Tag) → Act → World → Prop
  | [], a, w => Q a w
  | (o, .q) :: rest, a, w =>
    if Region.wanted o (yielded ops a.tmps) then ∃ v, (∀ p : ByR row w, stillUpon p.world v ((execOp a.eval o).run P p.world)) ∧ wpR P ops row Q rest (a.put o.dst v) w
    else wpR P ops row Q rest (a.put o.dst undef) w
  | (o, .g) :: rest, a, w =>
    if Region.wanted o (yielded ops a.tmps) then givesUpon P (fun v w' => w.grownBy w' row ∧ wpR P ops row Q rest (a.put o.dst v) w') ((execOp a.eval o).run P w)
    else wpR P ops row Q rest (a.put o.dst undef) w
  | (o, .b) :: rest, a, w =>
    if Region.wanted o (yielded ops a.tmps) then givesUpon P (fun v w' => wpR P ops row Q rest (a.put o.dst v) w') ((execOp a.eval o).run P w)
    else wpR P ops row Q rest (a.put o.dst undef) w
  | (o, .p) :: rest, a, w =>
    if Region.wanted o (yielded ops a.tmps) then ∃ v, (∀ W : World, stillUpon W v ((execOp a.eval o).run P W)) ∧ wpR P ops row Q rest (a.put o.dst v) w
    else wpR P ops row Q rest (a.put o.dst undef) w

/-- Behind a name that simp does not open. -/
def GrewR (row : Option Nat) (w w' : World) : Prop := w.grownBy w' row
theorem GrewR.of_alloc {row : Option Nat} {w : World} (o : Obj) : GrewR row w (w.alloc o) := World.grownBy_alloc w o row

/-- One operation at a time, what follows behind a variable. -/
theorem wpR_q {Q : Act → World → Prop} {o : Oper} {rest : List (Oper × Tag)} {a : Act} {w : World}
    (h : ∀ K : Act → Prop, (∀ a, wpR P ops row Q rest a w → K a) → if Region.wanted o (yielded ops a.tmps) then ∃ v, (∀ p : ByR row w, stillUpon p.world v ((execOp a.eval o).run P p.world)) ∧ K (a.put o.dst v) else K (a.put o.dst undef)) :
    wpR P ops row Q ((o, .q) :: rest) a w := h _ fun _ h => h
theorem wpR_g {Q : Act → World → Prop} {o : Oper} {rest : List (Oper × Tag)} {a : Act} {w : World}
    (h : ∀ K : Act → World → Prop, (∀ a w', wpR P ops row Q rest a w' → K a w') → if Region.wanted o (yielded ops a.tmps) then givesUpon P (fun v w' => GrewR row w w' ∧ K (a.put o.dst v) w') ((execOp a.eval o).run P w) else K (a.put o.dst undef) w) :
    wpR P ops row Q ((o, .g) :: rest) a w := h _ fun _ _ h => h
theorem wpR_b {Q : Act → World → Prop} {o : Oper} {rest : List (Oper × Tag)} {a : Act} {w : World}
    (h : ∀ K : Act → World → Prop, (∀ a w', wpR P ops row Q rest a w' → K a w') → if Region.wanted o (yielded ops a.tmps) then givesUpon P (fun v w' => K (a.put o.dst v) w') ((execOp a.eval o).run P w) else K (a.put o.dst undef) w) :
    wpR P ops row Q ((o, .b) :: rest) a w := h _ fun _ _ h => h
theorem wpR_p {Q : Act → World → Prop} {o : Oper} {rest : List (Oper × Tag)} {a : Act} {w : World}
    (h : ∀ K : Act → Prop, (∀ a, wpR P ops row Q rest a w → K a) → if Region.wanted o (yielded ops a.tmps) then ∃ v, (∀ W : World, stillUpon W v ((execOp a.eval o).run P W)) ∧ K (a.put o.dst v) else K (a.put o.dst undef)) :
    wpR P ops row Q ((o, .p) :: rest) a w := h _ fun _ h => h
theorem wpR_nil {Q : Act → World → Prop} {a : Act} {w : World} (h : Q a w) : wpR P ops row Q [] a w := h

theorem exchR {Q : Act → World → Prop} {oj : Oper} {tj : Tag} {post : List (Oper × Tag)} (hsj : ∀ cs b, oj.op ≠ .select cs b) : ∀ (pre : List (Oper × Tag)) (a : Act) (w : World),
    (∀ x ∈ pre, (x.2 = .q ∨ x.2 = .p) ∧ x.1.apart ops oj = true ∧ ∀ cs b, x.1.op ≠ .select cs b) → (tj = .b → ∀ x ∈ pre, x.2 = .p) → wpR P ops row Q (pre ++ (oj, tj) :: post) a w →
    opStep P ops oj (fun v w' => (tj ≠ .b → w.grownBy w' row) ∧ wpR P ops row Q (pre ++ post) (a.put oj.dst v) w') a w
  | [], a, w, _, _, h => by
    unfold opStep
    simp only [List.nil_append] at h ⊢
    cases tj <;> simp only [wpR] at h <;> split at h <;> rename_i hw <;> simp only [hw, if_true, if_false, Bool.false_eq_true]
    · obtain ⟨v, h1, h2⟩ := h
      exact givesUpon_of_still (h1 ⟨w, gby_refl _ _⟩) ⟨fun _ => gby_refl _ _, h2⟩
    · exact ⟨fun _ => gby_refl _ _, h⟩
    · exact givesUpon_mono h fun v w' hh => ⟨fun _ => hh.1, hh.2⟩
    · exact ⟨fun _ => gby_refl _ _, h⟩
    · exact givesUpon_mono h fun v w' hh => ⟨fun hn => absurd rfl hn, hh⟩
    · exact ⟨fun _ => gby_refl _ _, h⟩
    · obtain ⟨v, h1, h2⟩ := h
      exact givesUpon_of_still (h1 w) ⟨fun _ => gby_refl _ _, h2⟩
    · exact ⟨fun _ => gby_refl _ _, h⟩
  | (op, t) :: pre, a, w, hp, hb, h => by
    obtain ⟨ht, hap, hsp⟩ := hp (op, t) (by simp)
    simp only at ht hap hsp
    obtain ⟨h1, h2, h3⟩ := Oper.apart_spec hap
    have hp' : ∀ x ∈ pre, (x.2 = .q ∨ x.2 = .p) ∧ x.1.apart ops oj = true ∧ ∀ cs b, x.1.op ≠ .select cs b := fun x hx => hp x (by simp [hx])
    have hb' : tj = .b → ∀ x ∈ pre, x.2 = .p := fun e x hx => hb e x (by simp [hx])
    have key : ∀ v, (∀ w', (tj ≠ .b → w.grownBy w' row) → ∀ u, wpR P ops row Q (pre ++ post) ((a.put oj.dst u).put op.dst v) w' → wpR P ops row Q ((op, t) :: (pre ++ post)) (a.put oj.dst u) w') →
        wpR P ops row Q (pre ++ (oj, tj) :: post) (a.put op.dst v) w → opStep P ops oj (fun v w' => (tj ≠ .b → w.grownBy w' row) ∧ wpR P ops row Q ((op, t) :: pre ++ post) (a.put oj.dst v) w') a w := by
      intro v hk hh
      have ih := exchR hsj pre (a.put op.dst v) w hp' hb' hh
      unfold opStep at ih ⊢
      rw [wanted_put oj a op.dst v h1, execOp_put oj hsj a op.dst v h1] at ih
      split at ih <;> rename_i hw <;> simp only [hw, if_true, if_false, Bool.false_eq_true]
      · refine givesUpon_mono ih fun u w' hh' => ⟨hh'.1, hk w' hh'.1 u ?_⟩
        rw [← Act.put_comm a v u h2]; exact hh'.2
      · refine ⟨ih.1, hk w (fun _ => gby_refl _ _) undef ?_⟩
        rw [← Act.put_comm a v undef h2]; exact ih.2
    rcases ht with rfl | rfl
    · have hnb : tj ≠ .b := fun e => by have := hb e (op, .q) (by simp); cases this
      simp only [List.cons_append, wpR] at h
      split at h
      · rename_i hw
        obtain ⟨v, hv, hrest⟩ := h
        refine key v (fun w' hbw u hr => ?_) hrest
        have hbw := hbw hnb
        simp only [wpR]
        rw [wanted_put op a oj.dst u h3, if_pos hw, execOp_put op hsp a oj.dst u h3]
        exact ⟨v, fun p => hv ⟨p.world, gby_trans hbw p.h⟩, hr⟩
      · rename_i hw
        refine key undef (fun w' hbw u hr => ?_) h
        simp only [wpR]
        rw [wanted_put op a oj.dst u h3, if_neg hw]
        exact hr
    · simp only [List.cons_append, wpR] at h
      split at h
      · rename_i hw
        obtain ⟨v, hv, hrest⟩ := h
        refine key v (fun w' hbw u hr => ?_) hrest
        simp only [wpR]
        rw [wanted_put op a oj.dst u h3, if_pos hw, execOp_put op hsp a oj.dst u h3]
        exact ⟨v, hv, hr⟩
      · rename_i hw
        refine key undef (fun w' hbw u hr => ?_) h
        simp only [wpR]
        rw [wanted_put op a oj.dst u h3, if_neg hw]
        exact hr

theorem ord_soundR {Q : Exit → Act → World → Prop} (ord : List (Nat × Tag)) (hsel : Region.noSelect ops = true) (hcov : ∀ i, i < ops.size → ∃ x ∈ ord, x.1 = i)
    (hpw : ord.Pairwise (Rel2 ops)) (hsome : ∀ y ∈ ord, (ops[y.1]?).isSome = true) (htop : ∀ pre y post, ord = pre ++ y :: post → ∀ d ∈ depsOf ops y.1, ∃ x ∈ pre, x.1 = d) :
    ∀ (m : Nat) (listed : Array Bool) (a : Act) (w : World), (rem ord listed).length = m → Ideal ops listed → wpR P ops row (Q .normal) (pick ops (rem ord listed)) a w → wpAny P .any ops Q m listed a w := by
  have hlt : ∀ y ∈ ord, y.1 < ops.size := fun y hy => by
    have := hsome y hy
    rw [Option.isSome_iff_exists] at this
    obtain ⟨o, ho⟩ := this
    exact (Array.getElem?_eq_some_iff.1 ho).1
  intro m
  induction m with
  | zero =>
    intro listed a w hm hid h
    have hnil : rem ord listed = [] := List.eq_nil_of_length_eq_zero hm
    refine ⟨?_, by rw [hnil] at h; exact h⟩
    apply List.eq_nil_iff_forall_not_mem.2
    intro j hj
    obtain ⟨h1, h2, _⟩ := ready_deps hj
    obtain ⟨x, hx, rfl⟩ := hcov j h1
    have : x ∈ rem ord listed := List.mem_filter.2 ⟨hx, by simpa using h2⟩
    rw [hnil] at this
    cases this
  | succ m ih =>
    intro listed a w hm hid h
    refine ⟨fun h0 => ?_, fun j hj => ?_⟩
    · -- the first that has not come up is ready
      exfalso
      obtain ⟨y, rest, hrem⟩ : ∃ y rest, rem ord listed = y :: rest := by
        cases hr : rem ord listed with
        | nil => rw [hr] at hm; cases hm
        | cons y rest => exact ⟨y, rest, rfl⟩
      obtain ⟨pre, post, hord, hpre⟩ := List.filter_eq_cons_iff.1 hrem
      have hy : y ∈ ord := by rw [hord]; simp
      obtain ⟨o, ho⟩ := Option.isSome_iff_exists.1 (hsome y hy)
      have hun : listed.getD y.1 true = false := by
        have : y ∈ rem ord listed := by rw [hrem]; simp
        simpa using (List.mem_filter.1 this).2
      have : y.1 ∈ Region.ready .any ops listed := ready_of ho hun fun d hd => by
        obtain ⟨x, hx, rfl⟩ := htop pre y post hord d hd
        have h1 := hpre.1 x hx
        have hxl : x.1 < listed.size := by rw [hid.size]; exact hlt x (by rw [hord]; simp [hx])
        rw [← getD_tf hxl]
        simpa using h1
      rw [h0] at this
      cases this
    · obtain ⟨h1, h2, h3⟩ := ready_deps hj
      obtain ⟨x, hx, rfl⟩ := hcov j h1
      have hxr : x ∈ rem ord listed := List.mem_filter.2 ⟨hx, by simpa using h2⟩
      obtain ⟨pre, post, hsplit⟩ := List.append_of_mem hxr
      have hpwr : (rem ord listed).Pairwise (Rel2 ops) := hpw.filter _
      rw [hsplit, List.pairwise_append] at hpwr
      obtain ⟨_, hpc, hcross⟩ := hpwr
      obtain ⟨oj, hoj⟩ := Option.isSome_iff_exists.1 (hsome x hx)
      have hpre : ∀ y ∈ pre, Rel2 ops y x ∧ listed.getD y.1 false = false ∧ y ∈ ord := fun y hy => by
        have hyr : y ∈ rem ord listed := by rw [hsplit]; simp [hy]
        obtain ⟨hyo, hyu⟩ := List.mem_filter.1 hyr
        have hyl : y.1 < listed.size := by rw [hid.size]; exact hlt y hyo
        exact ⟨hcross y hy x (by simp), by rw [← getD_tf hyl]; simpa using hyu, hyo⟩
      have hno : ∀ y ∈ pre, ¬ Anc ops x.1 y.1 := fun y hy ha => by
        have := hid.anc ha h3
        rw [(hpre y hy).2.1] at this
        cases this
      have hstep := exchR (row := row) (P := P) (Q := Q .normal) (oj := oj) (tj := x.2) (post := pick ops post) (fun cs b => Region.noSelect_spec hsel x.1 oj cs b hoj) (pick ops pre) a w
        (by
          intro z hz
          obtain ⟨y, hy, hyz⟩ := List.mem_filterMap.1 hz
          obtain ⟨oy, hoy⟩ := Option.isSome_iff_exists.1 (hsome y (hpre y hy).2.2)
          rw [hoy] at hyz
          simp only [Option.map_some, Option.some.injEq] at hyz
          subst hyz
          refine ⟨?_, ?_, fun cs b => Region.noSelect_spec hsel y.1 oy cs b hoy⟩
          · cases hq : y.2 with
            | q => exact Or.inl rfl
            | p => exact Or.inr rfl
            | g => exact absurd ((hpre y hy).1.anc (by rw [hq]; rfl)) (hno y hy)
            | b => exact absurd ((hpre y hy).1.anc (by rw [hq]; rfl)) (hno y hy)
          · rcases (hpre y hy).1.apart with hd | hd
            · exact absurd (.one hd) (hno y hy)
            · unfold apartB at hd
              rw [hoy, hoj] at hd
              exact hd)
        (by
          intro hb z hz
          obtain ⟨y, hy, hyz⟩ := List.mem_filterMap.1 hz
          obtain ⟨oy, hoy⟩ := Option.isSome_iff_exists.1 (hsome y (hpre y hy).2.2)
          rw [hoy] at hyz
          simp only [Option.map_some, Option.some.injEq] at hyz
          subst hyz
          cases hq : y.2 with
          | p => rfl
          | q => exact absurd ((hpre y hy).1.anc (by rw [hq, hb]; rfl)) (hno y hy)
          | g => exact absurd ((hpre y hy).1.anc (by rw [hq]; rfl)) (hno y hy)
          | b => exact absurd ((hpre y hy).1.anc (by rw [hq]; rfl)) (hno y hy))
        (by
          have e : pick ops (rem ord listed) = pick ops pre ++ (oj, x.2) :: pick ops post := by
            rw [hsplit]; unfold pick; simp [List.filterMap_append, hoj]
          rw [← e]; exact h)
      have hrem' : rem ord (listed.setIfInBounds x.1 true) = pre ++ post := by
        have hx1 : x.1 < listed.size := by rw [hid.size]; exact h1
        have e1 : rem ord (listed.setIfInBounds x.1 true) = (rem ord listed).filter fun y => y.1 != x.1 := by
          unfold rem
          rw [List.filter_filter]
          apply List.filter_congr
          intro y hy
          by_cases hyx : x.1 = y.1
          · rw [← hyx]; simp [hx1]
          · have hne : (y.1 != x.1) = true := by simpa using fun h => hyx h.symm
            rw [getD_set_ne true hyx, hne]; simp
        rw [e1, hsplit, List.filter_append, List.filter_cons]
        have hp : pre.filter (fun y => y.1 != x.1) = pre := List.filter_eq_self.2 fun y hy => by simpa using (hpre y hy).1.ne
        have hq : post.filter (fun y => y.1 != x.1) = post := List.filter_eq_self.2 fun y hy => by
          have := (List.pairwise_cons.1 hpc).1 y hy
          simpa using fun e => this.ne e.symm
        rw [hp, hq]; simp
      refine wpOp_of_step hoj ?_
      have hlen : (pre ++ post).length = m := by
        have := hm
        rw [hsplit] at this
        simp at this ⊢
        omega
      have hid' : Ideal ops (listed.setIfInBounds x.1 true) := by
        refine ⟨by simp [hid.size], fun y hy d hd => ?_⟩
        by_cases hxy : x.1 = y
        · subst hxy; exact getD_set_true (h3 d hd)
        · rw [getD_set_ne false hxy] at hy
          exact getD_set_true (hid.closed y hy d hd)
      unfold opStep at hstep ⊢
      have e2 : ∀ v w', wpR P ops row (Q .normal) (pick ops pre ++ pick ops post) (a.put oj.dst v) w' → wpAny P .any ops Q m (listed.setIfInBounds x.1 true) (a.put oj.dst v) w' := fun v w' hh =>
        ih _ _ _ (by rw [hrem']; exact hlen) hid' (by rw [hrem']; unfold pick at hh ⊢; rw [List.filterMap_append]; exact hh)
      split at hstep <;> rename_i hw <;> simp only [hw, if_true, if_false, Bool.false_eq_true]
      · exact givesUpon_mono hstep fun v w' hh => e2 v w' hh.2
      · exact e2 _ _ hstep.2

/-- **The rule.** -/
theorem wp_region_row (row : Option Nat) {id : Nat} {Q : Exit → Act → World → Prop} {a : Act} {w : World} {l : List Oper} (ord : List (Nat × Tag)) (hm : P.follows .mixedOrders = true) (hB : ordB l.toArray ord = true)
    (h : wpR P l.toArray row (Q .normal) (pick l.toArray ord) a w.drew) : (Code.region id l.toArray true).wp P Q a w := by
  simp only [ordB, Bool.and_eq_true, beq_iff_eq] at hB
  obtain ⟨⟨⟨hsel, hlen⟩, hcov⟩, hfrom⟩ := hB
  obtain ⟨hpw, _, hsome, htop⟩ := ordFrom_spec ord [] hfrom (fun _ h => by cases h)
  refine wp_region_any hm ?_
  have hall : rem ord (Array.replicate l.toArray.size false) = ord := List.filter_eq_self.2 fun y hy => by
    obtain ⟨o, ho⟩ := Option.isSome_iff_exists.1 (hsome y hy)
    have := (Array.getElem?_eq_some_iff.1 ho).1
    simp at this
    simp [this]
  have hs := ord_soundR (row := row) (P := P) (Q := Q) ord hsel (fun i hi => by
    have := List.all_eq_true.1 hcov i (List.mem_range.2 hi)
    obtain ⟨x, hx, hxi⟩ := List.any_eq_true.1 this
    exact ⟨x, hx, by simpa using hxi⟩) hpw hsome (fun pre y post he d hd => by
      rcases htop pre y post he d hd with ⟨x, hx, _⟩ | hx
      · cases hx
      · exact hx) l.toArray.size (Array.replicate l.toArray.size false) a w.drew (by rw [hall, hlen])
      ⟨by simp, fun y hy => by
        rcases Nat.lt_or_ge y l.toArray.size with h | h
        · simp at h; simp [h] at hy
        · simp at h; simp [h] at hy⟩ (by rw [hall]; exact h)
  exact hs

theorem wpR_append_at {o : Oper} {rest : List (Oper × Tag)} {a : Act} {w : World} {row : Option Nat} {Q : Act → World → Prop} (hgd : o.guard = none) (s x : Operand) (t : TypeId)
    (ho : o.op = .call { callee := .builtin .append, args := #[s, x], argTypes := #[t, t] })
    (base : Nat) (e : TypeId) (i : TypeInfo) (z : Value) (size bytes : Nat) (ht : P.underlying t = some (.slice e)) (hi : P.info? e = some i) (hz : i.zero = some z)
    (hsize : i.size = size) (hby : i.bytes = bytes) (hzs : z.cells.size = size) (hsz : 0 < size)
    (v : Value) (n : Nat) (xs : List Value) (hs : a.eval s = v) (hown : w.ownsRow base e size v n xs) (hrow : v.ownBlock = row)
    (ad : Addr) (m c : Nat) (news : List Value) (hx : a.eval x = .slice (some ad) m c) (hl : news.length = m * size) (hnews : ∀ j u, news[j]? = some u → w.cell? (ad.add j) = some u) (h1 : ∀ u ∈ news, u.oneCell' = true)
    (h63 : n + m ≤ maxLen) (hbytes : (n + m) * bytes ≤ 140737488355328) (hbase : base ≤ w.heap.size)
    (h : ∀ v' w', w'.ownsRow base e size v' (n + m) (xs ++ news) → w.grownBy w' v.ownBlock → (v'.ownBlock = v.ownBlock ∨ v'.ownBlock = some w.heap.size) → wpR P ops row Q rest (a.put o.dst v') w') : wpR P ops row Q ((o, .g) :: rest) a w := by
  refine wpR_g fun K hK => ?_
  have hw : Region.wanted o (yielded ops a.tmps) = true := by simp [Region.wanted, hgd]
  rw [if_pos hw]
  obtain ⟨v', w', hrun, h2, h3, _, h4⟩ := run_append_own_at (P := P) w base t o.type e i z size bytes ht hi hz hsize hby hzs hsz v n xs hown ad m c news hl hnews h1 h63 hbytes hbase
  unfold execOp
  simp only [ho, resolve, invoke, builtin, Sem.run_bind, Sem.run_pure, Result.andThen_ok, List.map_toArray, List.map_cons, List.map_nil, hs, hx, hrun]
  exact ⟨hrow ▸ h3, hK _ _ (h v' w' h2 h3 h4)⟩
end
end Go.Proofs.YthieodccakphiaaGreat
/- Walks: two groups put together. -/



namespace Go.Proofs.YthieodccakphiaaGreat
open Go.RowKit Go.Shelf
attribute [local go_sem] ByR.cell ByR.cell_drew BelowBy.cell BelowBy.cell_drew stillUpon givesUpon BelowBy.cell_drew2 BelowBy.cell_drew3

theorem lessP_at {ax ay bx b_y : Int} {v : Bool} {w : World} (h : lessPt ax ay bx b_y = v) :
    Calls Tryz.prog 105 #[.agg #[.int .i64 ax, .int .i64 ay], .agg #[.int .i64 bx, .int .i64 b_y]] w fun e w' => e = .returned (.bool v) ∧ Below w.heap.size w w' := h ▸ LessPoint_any ax ay bx b_y w
/-- the strengths while two rows are added -/
def stepP (i k : Nat) (M : Nat → Nat → Int) : Nat → Nat → Nat → Int
  | 0 => M
  | j + 1 => fun a b => if a = j ∧ b = i then wrapZ (stepP i k M j i j + stepP i k M j k j) else if a = i ∧ b = j then wrapZ (stepP i k M j i j + stepP i k M j k j) else stepP i k M j a b
section
variable {i k : Nat} {M : Nat → Nat → Int}
theorem stepP_k (hik : i < k) (j b : Nat) (hb : b ≠ i) : stepP i k M j k b = M k b := by
  induction j with
  | zero => rfl
  | succ j ih => simp only [stepP]; rw [if_neg (fun h => hb h.2), if_neg (fun h => by omega), ih]
theorem stepP_o (j a b : Nat) (ha : a ≠ i) (hb : b ≠ i) : stepP i k M j a b = M a b := by
  induction j with
  | zero => rfl
  | succ j ih => simp only [stepP]; rw [if_neg (fun h => hb h.2), if_neg (fun h => ha h.1), ih]
theorem stepP_row (hik : i < k) (j b : Nat) (hb : b ≠ i) : stepP i k M j i b = if b < j then wrapZ (M i b + M k b) else M i b := by
  induction j with
  | zero => rfl
  | succ j ih =>
    show (if i = j ∧ b = i then _ else if i = i ∧ b = j then _ else _) = _
    rw [if_neg (fun h => hb h.2)]
    by_cases e : b = j
    · subst e
      rw [if_pos ⟨rfl, rfl⟩, if_pos (by omega), stepP_k hik b b hb, ih, if_neg (by omega)]
    · rw [if_neg (fun h => e h.2), ih]
      by_cases h : b < j
      · rw [if_pos h, if_pos (by omega)]
      · rw [if_neg h, if_neg (by omega)]
theorem stepP_col (hik : i < k) (j a : Nat) (ha : a ≠ i) : stepP i k M j a i = if a < j then wrapZ (M i a + M k a) else M a i := by
  induction j with
  | zero => rfl
  | succ j ih =>
    show (if a = j ∧ i = i then _ else if a = i ∧ i = j then _ else _) = _
    by_cases e : a = j
    · subst e
      rw [if_pos ⟨rfl, rfl⟩, if_pos (by omega), stepP_k hik a a ha, stepP_row hik a a ha, if_neg (by omega)]
    · rw [if_neg (fun h => e h.1), if_neg (fun h => ha h.1), ih]
      by_cases h : a < j
      · rw [if_pos h, if_pos (by omega)]
      · rw [if_neg h, if_neg (by omega)]
/-- behind the loop, with nothing at place i of row i -/
def zeroP (i k n : Nat) (M : Nat → Nat → Int) (a b : Nat) : Int := if a = i ∧ b = i then 0 else stepP i k M n a b
theorem zeroP_put {n : Nat} (hik : i < k) (hk : k < n) (a b : Nat) (ha : a < n - 1) (hb : b < n - 1) : zeroP i k n M (skipN k a) (skipN k b) = putM i k M a b := by
  have ha' := skipN_lt hk ha
  have hb' := skipN_lt hk hb
  unfold zeroP putM
  by_cases e1 : skipN k a = i
  · by_cases e2 : skipN k b = i
    · rw [if_pos ⟨e1, e2⟩, if_pos e1, if_pos e2]
    · rw [if_neg (fun h => e2 h.2), if_pos e1, if_neg e2, e1, stepP_row hik n _ e2, if_pos hb']
  · rw [if_neg (fun h => e1 h.1), if_neg e1]
    by_cases e2 : skipN k b = i
    · rw [if_pos e2, e2, stepP_col hik n _ e1, if_pos ha']
    · rw [if_neg e2, stepP_o n _ _ e1 e2]
end
/-- the rows while an element is struck out of each -/
def rowsJ (k j : Nat) (R : List (List Value)) : List (List Value) := (R.take j).map (fun r => r.eraseIdx k) ++ R.drop j
theorem rowsJ_zero (k : Nat) (R : List (List Value)) : rowsJ k 0 R = R := by simp [rowsJ]
theorem rowsJ_get {k j : Nat} {R : List (List Value)} {r : List Value} (h : R[j]? = some r) : (rowsJ k j R)[j]? = some r := by
  have hj := (List.getElem?_eq_some_iff.1 h).1
  unfold rowsJ
  rw [List.getElem?_append_right (by simp only [List.length_map, List.length_take]; omega)]
  simp only [List.length_map, List.length_take, List.getElem?_drop]
  rw [show j + (j - min j R.length) = j by omega]
  exact h
theorem rowsJ_set {k j : Nat} {R : List (List Value)} {r : List Value} (h : R[j]? = some r) : (rowsJ k j R).set j (r.eraseIdx k) = rowsJ k (j + 1) R := by
  obtain ⟨hj, rfl⟩ := List.getElem?_eq_some_iff.1 h
  unfold rowsJ
  rw [List.take_succ_eq_append_getElem hj, List.map_append, List.set_append_right _ _ (by simp only [List.length_map, List.length_take]; omega), List.append_assoc]
  congr 1
  simp only [List.length_map, List.length_take]
  rw [show j - min j R.length = 0 by omega, List.drop_eq_getElem_cons hj]
  rfl
theorem rowsJ_all {k : Nat} {R : List (List Value)} {m : Nat} (hm : m = R.length) : rowsJ k m R = R.map fun r => r.eraseIdx k := by
  subst hm; simp [rowsJ]
theorem rowsZ_put {i k n : Nat} {M : Nat → Nat → Int} (hik : i < k) (hk : k < n) : ((rowsZ (zeroP i k n M) n n).eraseIdx k).map (fun r => r.eraseIdx k) = rowsZ (putM i k M) (n - 1) (n - 1) := by
  have hat : ∀ {α : Type} (l : List α) (j : Nat), (l.eraseIdx k)[j]? = l[skipN k j]? := fun l j => by
    rw [List.getElem?_eraseIdx]; unfold skipN; split <;> rfl
  apply List.ext_getElem?
  intro u
  rw [List.getElem?_map, hat]
  by_cases hu : u < n - 1
  · rw [rowsZ_get (skipN_lt hk hu), rowsZ_get hu]
    simp only [Option.map_some]
    congr 1
    apply List.ext_getElem?
    intro v
    rw [hat]
    by_cases hv : v < n - 1
    · rw [rowZ_get (skipN_lt hk hv), rowZ_get hv, zeroP_put hik hk u v hu hv]
    · rw [List.getElem?_eq_none (by rw [rowZ_len]; unfold skipN; split <;> omega), List.getElem?_eq_none (by rw [rowZ_len]; omega)]
  · rw [List.getElem?_eq_none (by rw [rowsZ_len]; unfold skipN; split <;> omega), List.getElem?_eq_none (by rw [rowsZ_len]; omega)]
    rfl
theorem own2_one {w : World} {base T E size : Nat} {v : Value} {us : List Value} {rows : List (List Value)} (h : Own2 w base T E size v us rows) : ∀ u ∈ us, u.oneCell' = true := fun u hu => by
  obtain ⟨j, hj⟩ := List.getElem?_of_mem hu
  obtain ⟨m, r, _, ho⟩ := h.get hj
  obtain ⟨A, c, rfl⟩ := ownsRow_form ho
  rfl
theorem rowZ_one (M : Nat → Nat → Int) (n u : Nat) : ∀ x ∈ rowZ M n u, x.oneCell' = true := fun x hx => by
  unfold rowZ at hx
  obtain ⟨b, _, rfl⟩ := List.mem_map.1 hx
  rfl
/-- the box when a block of another type is turned -/
theorem Gr.after {w w' : World} {base p n g : Nat} {vG vB : Value} {xs us : List Value} {rows : List (List Value)} {T : TypeId} (h : Gr w base p n vG vB xs us rows) (hg : w.grownBy w' (some g)) (hT : TyAt w g T) (hne : T ≠ 135) :
    w'.cell? ⟨p, 0, none⟩ = some vG ∧ w'.cell? ⟨p, 1, none⟩ = some vB ∧ w'.frozen? ⟨p, 0, none⟩ = false ∧ w'.frozen? ⟨p, 1, none⟩ = false ∧ p < w'.heap.size ∧ TyAt w' p 135 := by
  have hb : w'.heap[p]? = some (Obj.cells #[vG, vB] 135) := (hg.block p h.lt (fun e => h.tyP.ne hT (fun e' => hne e'.symm) (by injection e))).trans h.box
  exact ⟨by simp [World.cell?, hb], by simp [World.cell?, hb], by simp [World.frozen?, hb], by simp [World.frozen?, hb], Nat.lt_of_lt_of_le h.lt hg.size, _, hb⟩
/-- two blocks of the rows are turned -/
theorem Gr.turnB2 {w w1 w2 : World} {base p n g1 g2 : Nat} {vG vB : Value} {xs us us' : List Value} {rows rows' : List (List Value)} (h : Gr w base p n vG vB xs us rows) (hv1 : InMat vB us g1) (hv2 : InMat vB us g2) (hg1 : w.grownBy w1 (some g1)) (hg2 : w1.grownBy w2 (some g2)) (ho : Own2 w2 base 103 2 1 vB us' rows') : Gr w2 base p n vG vB xs us' rows' := by
  have hne : ∀ {T : TypeId} {b g : Nat}, InMat vB us g → TyAt w b T → T ≠ 103 → T ≠ 2 → b ≠ g := fun hg hb h1 h2 => by
    rcases h.tyIn hg with hT | hT
    · exact hb.ne hT h1
    · exact hb.ne hT h2
  have hp1 := hg1.block p h.lt (fun e => by injection e with e; exact hne hv1 h.tyP (by decide) (by decide) e)
  have hp2 := hg2.block p (Nat.lt_of_lt_of_le h.lt hg1.size) (fun e => by injection e with e; exact hne hv2 h.tyP (by decide) (by decide) e)
  have hq : ∀ g, InMat vB us g → vG.ownBlock = none ∨ vG.ownBlock ≠ some g := fun g hg => by
    cases hb : vG.ownBlock with
    | none => exact .inl rfl
    | some b => exact .inr fun e => hne hg (TyAt.of_row h.G hb) (by decide) (by decide) (by injection e)
  exact ⟨(hp2.trans hp1).trans h.box, h.ge, (h.G.kept hg1 (hq g1 hv1)).kept hg2 (hq g2 hv2), h.gi, ho⟩
/-- one number stored -/
theorem Gr.set {w : World} {base p n m u j g' cap' : Nat} {vG vB : Value} {xs us : List Value} {M : Nat → Nat → Int} (h : Gr w base p m vG vB xs us (rowsZ M n n)) (hu : u < n) (hx : us[u]? = some (.slice (some ⟨g', 0, none⟩) n cap')) (x : Int) :
    Gr (w.setCell ⟨g', j, none⟩ (.int .i64 x)) base p m vG vB xs us (rowsZ (fun a b => if a = u ∧ b = j then x else M a b) n n) ∧ FrG base w (w.setCell ⟨g', j, none⟩ (.int .i64 x)) := by
  have hin : InMat vB us g' := .inr ⟨u, _, hx, rfl⟩
  obtain ⟨m', r, _, ho⟩ := h.B.get hx
  have hT : TyAt w g' 2 := TyAt.of_row ho rfl
  have hM : Mat w base vB us n M := h.B
  exact ⟨h.turnB hin ⟨rfl, rfl, rfl, by simp, fun i hi hne => Below.heap_setCell _ _ _ _ (fun e => hne (by rw [e]))⟩ (hM.store hu hx x), FrG.of_set (hM.lt hin).1 hT (.inr (.inr (.inr rfl))) _⟩
theorem Mat.slot {w : World} {base n u g cap : Nat} {us : List Value} {M : Nat → Nat → Int} (h : Mat w base (.slice (some ⟨g, 0, none⟩) n cap) us n M) (hu : u < n) : ∃ g' cap', us[u]? = some (.slice (some ⟨g', 0, none⟩) n cap') := by
  obtain ⟨_, _, g', cap', _, _, _, _, _, _, hx, _⟩ := h.at hu
  exact ⟨g', cap', hx⟩
theorem Mat.rowAt {w : World} {base n u g cap g' cap' : Nat} {us : List Value} {M : Nat → Nat → Int} (h : Mat w base (.slice (some ⟨g, 0, none⟩) n cap) us n M) (hu : u < n) (hx : us[u]? = some (.slice (some ⟨g', 0, none⟩) n cap')) :
    w.cell? ⟨g, u, none⟩ = some (.slice (some ⟨g', 0, none⟩) n cap') ∧ g < w.heap.size ∧ g' < w.heap.size ∧ base ≤ g' ∧ (∀ j, w.frozen? ⟨g', j, none⟩ = false) ∧ ∀ j, j < n → w.cell? ⟨g', j, none⟩ = some (.int .i64 (M u j)) := by
  obtain ⟨g1, c1, g2, c2, hv, h1, h2, h3, h4, h5, hx', ho, hc⟩ := h.at hu
  rw [hx] at hx'
  simp only [Option.some.injEq, Value.slice.injEq, Addr.mk.injEq, and_true, true_and] at hv hx'
  obtain ⟨rfl, rfl⟩ := hv
  obtain ⟨rfl, rfl⟩ := hx'
  exact ⟨h1, h2, h3, h5, ho.frozenAt, hc⟩
def PutRes (base p n : Nat) (M : Nat → Nat → Int) (w : World) (e : Ending) (w' : World) : Prop :=
  (∃ v, e = .returned v) ∧ ∃ vG vB xs us, Gr w' base p n vG vB xs us (rowsZ M n n) ∧ FrG base w w'
set_option maxRecDepth 100000 in
set_option maxHeartbeats 8000000 in
theorem put_any (base p n i k : Nat) (vG vB : Value) (xs us : List Value) (M : Nat → Nat → Int) (it : Int) (w : World) (h : Gr w base p n vG vB xs us (rowsZ M n n)) (hik : i < k) (hk : k < n) (hn : n ≤ 100000) (hbw0 : base ≤ w.heap.size) :
    Calls Tryz.prog 65 #[.pointer (some ⟨p, 0, none⟩), .int .i64 (i : Int), .int .i64 (k : Int), .int .i64 it] w (PutRes base p (n - 1) (putM i k M) w) := by
  have hi : i < n := by omega
  obtain ⟨gG, cG, rfl⟩ : ∃ g c, vG = .slice (some ⟨g, 0, none⟩) n c := by
    rcases h.G.2 with ⟨_, h0⟩ | ⟨g, c, cur, hv, _⟩
    · omega
    · exact ⟨g, c, hv⟩
  have hcI : ∀ j, j < n * 3 → ∃ v : Int, w.cell? ⟨gG, j, none⟩ = some (.int .i64 v) := fun j hj => by
    have hjl : j < xs.length := by rw [h.G.1]; exact hj
    obtain ⟨v, hv⟩ := h.gi _ (List.getElem_mem hjl)
    exact ⟨v, (h.G.cellAt j hj).trans (by rw [List.getElem?_eq_getElem hjl, hv])⟩
  obtain ⟨i0, ci0⟩ := hcI (i * 3) (by omega)
  obtain ⟨i1, ci1⟩ := hcI (i * 3 + 1) (by omega)
  obtain ⟨i2, ci2⟩ := hcI (i * 3 + 2) (by omega)
  obtain ⟨k1, ck1⟩ := hcI (k * 3 + 1) (by omega)
  obtain ⟨k2, ck2⟩ := hcI (k * 3 + 2) (by omega)
  have c0 := h.c0
  have lp := h.lt
  have lG := (h.G.lt gG rfl).2
  have bG := (h.G.lt gG rfl).1
  have fG := h.G.frozenAt
  have fi0 := fG (i * 3)
  have fi1 := fG (i * 3 + 1)
  have fi2 := fG (i * 3 + 2)
  have hH := Lib.hid h
  clear h hcI fG
  cases hv : lessPt k1 k2 i1 i2
  all_goals
    have hvH := Lib.hid hv
    clear hv
    go_enter Tryz.func65, Tryz.ntmps65
    go_wp2_with fail
    refine wp_region_ord [(0, .q), (1, .q), (2, .q), (3, .q), (4, .q), (5, .q), (6, .q), (7, .q), (8, .q), (9, .q), (10, .q), (11, .q), (12, .q), (13, .q), (14, .q), (15, .q), (16, .g)] (by kernel_rfl) (by kernel_rfl) ?_
    simp only [pick, List.filterMap_cons, List.filterMap_nil, List.getElem?_toArray, List.getElem?_cons_zero, List.getElem?_cons_succ, Option.map_some]
    repeat (first
      | ((with_reducible refine wpD_p (fun K hK => ?_)); go_simp; refine hK _ ?_; clear hK K)
      | ((with_reducible refine wpD_q (fun K hK => ?_)); go_simp; (first | refine hK _ ?_ | (go_bits; refine hK _ ?_) | (go_bits; go_simp; refine hK _ ?_)); clear hK K)
      | ((with_reducible refine wpD_g (fun K hK => ?_)); go_simp; refine hK _ _ ?_; clear hK K)
      | ((with_reducible refine wpD_g (fun K hK => ?_)); go_simp; refine ⟨Grew.of_alloc _, hK _ _ ?_⟩; clear hK K)
      | ((with_reducible refine wpD_g (fun K hK => ?_)); go_simp; go_at_call 105; refine (lessP_at hvH.out).mono ?_; rintro e w1 ⟨rfl, hb1⟩; refine ⟨_, rfl, hb1, hK _ _ ?_⟩; clear hK K; obtain ⟨chb1, fhb1, shb1, thb1⟩ := bcell hb1))
    with_reducible refine wpD_nil ?_
    have hB1 : Below w.heap.size w w1 := by exact bel_
    have hF1 := Lib.hid (FrG.of_below hB1 hbw0)
    have hg1 := Lib.hid (hH.out.below hB1)
    have m0 := (hB1.cell (p := ⟨p, 0, none⟩) lp).trans c0
    have m1 := (hB1.cell (p := ⟨gG, k * 3 + 1, none⟩) lG).trans ck1
    have m2 := (hB1.cell (p := ⟨gG, k * 3 + 2, none⟩) lG).trans ck2
    have m3 := (hB1.cell (p := ⟨gG, i * 3 + 1, none⟩) lG).trans ci1
    have m4 := (hB1.cell (p := ⟨gG, i * 3 + 2, none⟩) lG).trans ci2
    have m5 := (hB1.cell (p := ⟨gG, i * 3, none⟩) lG).trans ci0
    have n1 := (hB1.frozen (p := ⟨gG, i * 3 + 1, none⟩) lG).trans fi1
    have n2 := (hB1.frozen (p := ⟨gG, i * 3 + 2, none⟩) lG).trans fi2
    have n0 := (hB1.frozen (p := ⟨gG, i * 3, none⟩) lG).trans fi0
    have lp1 := Nat.lt_of_lt_of_le lp hB1.size
    have lG1 := Nat.lt_of_lt_of_le lG hB1.size
    have hpg : ¬ p = gG := (hg1.out.tyP).ne (TyAt.of_row hg1.out.G rfl) (by decide)
    have hgp : ¬ gG = p := fun e => hpg e.symm
    clear c0 ck1 ck2 ci0 ci1 ci2 fi0 fi1 fi2 hb1 chb1 fhb1 shb1 thb1 hB1 hvH
  case' false =>
    go_upto_region 3 with fail
    obtain ⟨W2, hW2⟩ : ∃ W2, W2 = w1.setCell ⟨gG, i * 3, none⟩ (.int .i64 it) := ⟨_, rfl⟩
    rw [← hW2]
    obtain ⟨xs2, hg2, hF2⟩ : ∃ xs2, Hid (Gr W2 base p n (.slice (some ⟨gG, 0, none⟩) n cG) vB xs2 us (rowsZ M n n)) ∧ Hid (FrG base w W2) := by
      have s1 := hg1.out.G.stored (i * 3) (.int .i64 it)
      rw [← hW2] at s1
      refine ⟨_, Lib.hid (hg1.out.turnG (g := gG) rfl s1.2 s1.1 (hg1.out.gi.set _ _) ?_), Lib.hid (hF1.out.trans (FrG.of_grown s1.2 bG (TyAt.of_row hg1.out.G rfl) (.inr (.inl rfl))))⟩
      exact (World.cell?_of_block (a := ⟨p, 0, none⟩) (s1.2.block p lp1 (fun e => hpg (by injection e)))).trans m0
    clear hW2 hg1 hF1 m0 m1 m2 m3 m4 m5 n0 n1 n2 lp1 lG1 hpg hgp
  case' true =>
    go_wp2_with fail
    refine wp_region_ord [(0, .q), (1, .q), (2, .q), (3, .q), (4, .q), (5, .q), (6, .q), (7, .q), (8, .q), (9, .q), (10, .q), (11, .q), (12, .q), (13, .q), (14, .q), (15, .b)] (by kernel_rfl) (by kernel_rfl) ?_
    simp only [pick, List.filterMap_cons, List.filterMap_nil, List.getElem?_toArray, List.getElem?_cons_zero, List.getElem?_cons_succ, Option.map_some]
    repeat (first | ((with_reducible refine wpD_p (fun K hK => ?_)); go_simp; refine hK _ ?_; clear hK K) | ((with_reducible refine wpD_q (fun K hK => ?_)); go_simp; (first | refine hK _ ?_ | (go_bits; refine hK _ ?_) | (go_bits; go_simp; refine hK _ ?_)); clear hK K))
    with_reducible refine wpD_b (fun K hK => ?_)
    go_simp
    refine hK _ _ ?_
    clear hK K
    with_reducible refine wpD_nil ?_
    go_upto_region 3 with fail
    obtain ⟨W2, hW2⟩ : ∃ W2, W2 = (((w1.setCell ⟨gG, i * 3 + 1, none⟩ (.int .i64 k1)).setCell ⟨gG, i * 3 + 1 + 1, none⟩ (.int .i64 k2)).setCell ⟨gG, i * 3, none⟩ (.int .i64 it)).drew := ⟨_, rfl⟩
    rw [← hW2]
    obtain ⟨xs2, hg2, hF2⟩ : ∃ xs2, Hid (Gr W2 base p n (.slice (some ⟨gG, 0, none⟩) n cG) vB xs2 us (rowsZ M n n)) ∧ Hid (FrG base w W2) := by
      have s1 := hg1.out.G.stored (i * 3 + 1) (.int .i64 k1)
      have s2 := s1.1.stored (i * 3 + 1 + 1) (.int .i64 k2)
      have s3 := s2.1.stored (i * 3) (.int .i64 it)
      have sg := grown_two (grown_two (grown_two s1.2 s2.2) s3.2) (grown_drew _ _)
      have so := s3.1.kept (grown_drew _ none) (Classical.em _)
      rw [← hW2] at sg so
      refine ⟨_, Lib.hid (hg1.out.turnG (g := gG) rfl sg so (((hg1.out.gi.set _ _).set _ _).set _ _) ?_), Lib.hid (hF1.out.trans (FrG.of_grown sg bG (TyAt.of_row hg1.out.G rfl) (.inr (.inl rfl))))⟩
      exact (World.cell?_of_block (a := ⟨p, 0, none⟩) (sg.block p lp1 (fun e => hpg (by injection e)))).trans m0
    clear hW2 hg1 hF1 m0 m1 m2 m3 m4 m5 n0 n1 n2 lp1 lG1 hpg hgp
  all_goals
    obtain ⟨gB, cB, rfl⟩ : ∃ g c, vB = .slice (some ⟨g, 0, none⟩) n c := Own2.formPos hg2.out.B (by rw [hg2.out.B.len, rowsZ_len]) (by omega)
    have c1 := hg2.out.c1
    have lp2 := hg2.out.lt
    have q0 : Hid (Gr W2 base p n (.slice (some ⟨gG, 0, none⟩) n cG) (.slice (some ⟨gB, 0, none⟩) n cB) xs2 us (rowsZ (stepP i k M 0) n n)) := hg2
    clear hg2
    go_wp2_with fail
    go_loopg [55] n (fun r x wr => ∃ j : Nat, j + r = n ∧ x = .int .i64 (j : Int) ∧ Hid (Gr wr base p n (.slice (some ⟨gG, 0, none⟩) n cG) (.slice (some ⟨gB, 0, none⟩) n cB) xs2 us (rowsZ (stepP i k M j) n n)) ∧ Hid (FrG base w wr))
    case atStart => exact ⟨0, by omega, rfl, q0, hF2⟩
    case round =>
      clear q0 hF2 c1 lp2
      obtain ⟨j, hj, rfl, hgr, hFr⟩ := hrel
      by_cases hjn : j < n
      · obtain ⟨gi, ci, hxi⟩ := Mat.slot (show Mat wr base _ us n _ from hgr.out.B) hi
        obtain ⟨gk, ck, hxk⟩ := Mat.slot (show Mat wr base _ us n _ from hgr.out.B) hk
        obtain ⟨gj, cj, hxj⟩ := Mat.slot (show Mat wr base _ us n _ from hgr.out.B) hjn
        obtain ⟨d1, l1, l2, hbi, f1, dc⟩ := Mat.rowAt (show Mat wr base _ us n _ from hgr.out.B) hi hxi
        obtain ⟨e1, _, l3, _, _, ec⟩ := Mat.rowAt (show Mat wr base _ us n _ from hgr.out.B) hk hxk
        have d2 := dc j hjn
        have e2 := ec j hjn
        have f2 := f1 j
        obtain ⟨r1, hr1⟩ : ∃ r, stepP i k M j i j = r := ⟨_, rfl⟩
        obtain ⟨r2, hr2⟩ : ∃ r, stepP i k M j k j = r := ⟨_, rfl⟩
        rw [hr1] at d2
        rw [hr2] at e2
        obtain ⟨s, hs⟩ : ∃ s, IntKind.i64.wrap (r1 + r2) = s := ⟨_, rfl⟩
        have hstep : stepP i k M (j + 1) = fun a b => if a = j ∧ b = i then s else (fun a b => if a = i ∧ b = j then s else stepP i k M j a b) a b := by
          simp only [stepP, wrapZ, hr1, hr2, hs]
        have hstepH := Lib.hid hstep
        have c1 := hgr.out.c1
        have lp2 := hgr.out.lt
        have hxiH := Lib.hid hxi
        have hxjH := Lib.hid hxj
        have hg3 := Lib.hid (hgr.out.set (j := j) hi hxi s)
        have hbase : base ≤ wr.heap.size := Nat.le_trans hbw0 hFr.out.b.size
        clear dc ec f1 hstep hr1 hr2 hxi hxj hxk hgr
        go_wp2_with fail
        refine wp_region_ord [(0, .q), (1, .q), (2, .q), (3, .q), (4, .q), (5, .q), (6, .q), (7, .q), (8, .q), (9, .q), (10, .q), (11, .q), (12, .q), (13, .q), (14, .q), (15, .q), (16, .q), (17, .q), (18, .q), (19, .q), (20, .q), (21, .q), (22, .b)] (by kernel_rfl) (by kernel_rfl) ?_
        simp only [pick, List.filterMap_cons, List.filterMap_nil, List.getElem?_toArray, List.getElem?_cons_zero, List.getElem?_cons_succ, Option.map_some]
        repeat (first | ((with_reducible refine wpD_p (fun K hK => ?_)); go_simp; refine hK _ ?_; clear hK K) | ((with_reducible refine wpD_q (fun K hK => ?_)); go_simp; (first | refine hK _ ?_ | (go_bits; refine hK _ ?_) | (go_bits; go_simp; refine hK _ ?_)); clear hK K))
        with_reducible refine wpD_b (fun K hK => ?_)
        go_simp
        refine hK _ _ ?_
        clear hK K
        with_reducible refine wpD_nil ?_
        obtain ⟨W3, hW3⟩ : ∃ W3, W3 = (wr.setCell ⟨gi, j, none⟩ (.int .i64 s)).drew := ⟨_, rfl⟩
        rw [← hW3]
        have hg4 : Hid (Gr W3 base p n (.slice (some ⟨gG, 0, none⟩) n cG) (.slice (some ⟨gB, 0, none⟩) n cB) xs2 us (rowsZ (fun a b => if a = i ∧ b = j then s else stepP i k M j a b) n n)) := Lib.hid (by rw [hW3]; exact hg3.out.1.below (Below.drew (Below.refl _ _)))
        have hF4 : Hid (FrG base w W3) := Lib.hid (by rw [hW3]; exact hFr.out.trans (hg3.out.2.trans (FrG.of_below (Below.drew (Below.refl _ _)) (by simp; exact hbase))))
        clear hW3 hg3 hFr c1 lp2 d1 d2 e1 e2 f2 l1 l2 l3 hs hbase
        obtain ⟨d1, l1, l2, _, _, dc⟩ := Mat.rowAt (show Mat W3 base _ us n _ from hg4.out.B) hi hxiH.out
        obtain ⟨e1, _, l3, _, f1, _⟩ := Mat.rowAt (show Mat W3 base _ us n _ from hg4.out.B) hjn hxjH.out
        have d2 := dc j hjn
        rw [if_pos ⟨rfl, rfl⟩] at d2
        have f2 := f1 i
        obtain ⟨u0, e2⟩ : ∃ u0, W3.cell? ⟨gj, i, none⟩ = some (.int .i64 u0) := by
          obtain ⟨_, _, _, _, _, ec⟩ := Mat.rowAt (show Mat W3 base _ us n _ from hg4.out.B) hjn hxjH.out
          exact ⟨_, ec i hi⟩
        have c1 := hg4.out.c1
        have lp2 := hg4.out.lt
        have hg5 := Lib.hid (hg4.out.set (j := i) hjn hxjH.out s)
        have hbase : base ≤ W3.heap.size := Nat.le_trans hbw0 hF4.out.b.size
        clear dc f1 hg4
        go_wp2_with fail
        refine wp_region_ord [(0, .q), (1, .q), (2, .q), (3, .q), (4, .q), (5, .q), (6, .q), (7, .q), (8, .q), (9, .q), (10, .q), (11, .q), (12, .q), (13, .q), (14, .q), (15, .q), (16, .q), (17, .q), (18, .q), (19, .b)] (by kernel_rfl) (by kernel_rfl) ?_
        simp only [pick, List.filterMap_cons, List.filterMap_nil, List.getElem?_toArray, List.getElem?_cons_zero, List.getElem?_cons_succ, Option.map_some]
        repeat (first | ((with_reducible refine wpD_p (fun K hK => ?_)); go_simp; refine hK _ ?_; clear hK K) | ((with_reducible refine wpD_q (fun K hK => ?_)); go_simp; (first | refine hK _ ?_ | (go_bits; refine hK _ ?_) | (go_bits; go_simp; refine hK _ ?_)); clear hK K))
        with_reducible refine wpD_b (fun K hK => ?_)
        go_simp
        refine hK _ _ ?_
        clear hK K
        with_reducible refine wpD_nil ?_
        go_wp2_with fail
        go_roundg (n - (j + 1))
        case measure => omega
        case rel =>
          refine ⟨j + 1, by omega, by go_num, Lib.hid ?_, Lib.hid ?_⟩
          · rw [hstepH.out]
            exact hg5.out.1.below (Below.drew (Below.refl _ _))
          · exact hF4.out.trans (hg5.out.2.trans (FrG.of_below (Below.drew (Below.refl _ _)) (by simp; exact hbase)))
      · obtain rfl : n = j := by omega
        obtain ⟨gi, ci, hxi⟩ := Mat.slot (show Mat wr base _ us n _ from hgr.out.B) hi
        obtain ⟨d1, l1, l2, hbi, f1, dc⟩ := Mat.rowAt (show Mat wr base _ us n _ from hgr.out.B) hi hxi
        have d2 := dc i hi
        have f2 := f1 i
        have c1 := hgr.out.c1
        have lp2 := hgr.out.lt
        have hg3 := Lib.hid (hgr.out.set (j := i) hi hxi 0)
        clear dc f1 hxi hgr
        go_upto_region 10 with fail
        obtain ⟨W3, hW3⟩ : ∃ W3, W3 = wr.setCell ⟨gi, i, none⟩ (.int .i64 0) := ⟨_, rfl⟩
        rw [← hW3]
        have hg4 : Hid (Gr W3 base p n (.slice (some ⟨gG, 0, none⟩) n cG) (.slice (some ⟨gB, 0, none⟩) n cB) xs2 us (rowsZ (zeroP i k n M) n n)) := Lib.hid (by rw [hW3]; exact hg3.out.1)
        have hF4 : Hid (FrG base w W3) := Lib.hid (by rw [hW3]; exact hFr.out.trans hg3.out.2)
        clear hW3 hg3 hFr c1 lp2 d1 d2 f2 l1 l2 hbi
        obtain ⟨R0, hR0⟩ : ∃ R0, rowsZ (zeroP i k n M) n n = R0 := ⟨_, rfl⟩
        have hRl : R0.length = n := by rw [← hR0, rowsZ_len]
        have hR0H := Lib.hid hR0
        rw [hR0] at hg4
        clear hR0
        have c0 := hg4.out.c0
        have lp2 := hg4.out.lt
        go_wp2_with fail
        refine (DelC_at hg4.out.G hg4.out.gi.one hk rfl rfl).mono ?_
        rintro e W4 ⟨rfl, ho4, hgr4⟩
        obtain ⟨a0, a1, a2, a3, a4, a5⟩ := hg4.out.after hgr4 (TyAt.of_row hg4.out.G rfl) (by decide)
        have hF5 := Lib.hid ((hF4.out.trans (FrG.of_grown hgr4 bG (TyAt.of_row hg4.out.G rfl) (.inr (.inl rfl)))).trans (FrG.of_set (o := 0) hg4.out.ge a5 (.inl rfl) (.slice (some ⟨gG, 0, none⟩) (n - 1) cG)))
        have hg5 := Lib.hid (hg4.out.storeG rfl hgr4 ho4 (hg4.out.gi.del _ _))
        clear hgr4 ho4 hg4 hF4 c0 lp2 a5 a1 a3
        go_upto_region 11 with fail
        obtain ⟨W5, hW5⟩ : ∃ W5, W5 = W4.setCell ⟨p, 0, none⟩ (.slice (some ⟨gG, 0, none⟩) (n - 1) cG) := ⟨_, rfl⟩
        rw [← hW5] at hg5 hF5 ⊢
        clear hW5 a0 a2 a4
        have c1 := hg5.out.c1
        have lp2 := hg5.out.lt
        have hul : us.length = n := by rw [hg5.out.B.len, hRl]
        have hoB := Lib.hid (Own2.outerN hg5.out.B hul)
        have bB := (Own2.lt hg5.out.B gB rfl).1
        have hulH := Lib.hid hul
        clear hul
        go_wp2_with fail
        refine (DelR_at hoB.out (own2_one hg5.out.B) hk rfl rfl).mono ?_
        rintro e W6 ⟨rfl, ho6, hgr6⟩
        obtain ⟨a0, a1, a2, a3, a4, a5⟩ := hg5.out.after hgr6 (TyAt.of_row hoB.out rfl) (by decide)
        rw [show us.take (k * 1) ++ us.drop ((k + 1) * 1) = us.eraseIdx k by rw [Nat.mul_one, Nat.mul_one, ← List.eraseIdx_eq_take_drop_succ]] at ho6
        have hF7 := Lib.hid ((hF5.out.trans (FrG.of_grown hgr6 bB (TyAt.of_row hoB.out rfl) (.inr (.inr (.inl rfl))))).trans (FrG.of_set (o := 1) hg5.out.ge a5 (.inl rfl) (.slice (some ⟨gB, 0, none⟩) (n - 1) cB)))
        have hg7 := Lib.hid (hg5.out.storeB (.inl rfl) hgr6 (Own2.drop hg5.out.B hgr6 ho6 (by rw [hulH.out]; exact hk) hulH.out))
        clear hgr6 ho6 hg5 hF5 c1 lp2 a5 a0 a2 hoB
        go_upto_region 12 with fail
        obtain ⟨W7, hW7⟩ : ∃ W7, W7 = W6.setCell ⟨p, 1, none⟩ (.slice (some ⟨gB, 0, none⟩) (n - 1) cB) := ⟨_, rfl⟩
        rw [← hW7] at hg7 hF7 ⊢
        clear hW7 a1 a3 a4
        obtain ⟨R1, hR1⟩ : ∃ R1, R0.eraseIdx k = R1 := ⟨_, rfl⟩
        have hR1l : R1.length = n - 1 := by rw [← hR1, List.length_eraseIdx_of_lt (by omega), hRl]
        have hR1r : ∀ j, j < n - 1 → R1[j]? = some (rowZ (zeroP i k n M) n (skipN k j)) := fun j hj => by
          rw [← hR1, ← hR0H.out, List.getElem?_eraseIdx]
          have := skipN_lt hk hj
          by_cases hc : j < k
          · have he : skipN k j = j := if_pos hc
            rw [if_pos hc, he]
            exact rowsZ_get (by omega)
          · have he : skipN k j = j + 1 := if_neg hc
            rw [if_neg hc, he]
            exact rowsZ_get (by omega)
        have hR1e : R1.map (fun r => r.eraseIdx k) = rowsZ (putM i k M) (n - 1) (n - 1) := by
          rw [← hR1, ← hR0H.out]; exact rowsZ_put hik hk
        rw [hR1] at hg7
        have hR1rH := Lib.hid hR1r
        have hR1eH := Lib.hid hR1e
        have q7 : Hid (∃ us', Gr W7 base p (n - 1) (.slice (some ⟨gG, 0, none⟩) (n - 1) cG) (.slice (some ⟨gB, 0, none⟩) (n - 1) cB) (xs2.take (k * 3) ++ xs2.drop ((k + 1) * 3)) us' (rowsJ k 0 R1)) := Lib.hid ⟨_, by rw [rowsJ_zero]; exact hg7.out⟩
        have c1 := hg7.out.c1
        have lp2 := hg7.out.lt
        have hR1lH := Lib.hid hR1l
        clear hg7 hR1r hR1e hR1 hR0H hRl hR1l hulH
        go_wp2_with fail
        go_loopg [136] (n - 1) (fun r x wr => ∃ j : Nat, j + r = n - 1 ∧ x = .int .i64 (j : Int) ∧ Hid (∃ us', Gr wr base p (n - 1) (.slice (some ⟨gG, 0, none⟩) (n - 1) cG) (.slice (some ⟨gB, 0, none⟩) (n - 1) cB) (xs2.take (k * 3) ++ xs2.drop ((k + 1) * 3)) us' (rowsJ k j R1)) ∧ Hid (FrG base w wr))
        case atStart => exact ⟨0, by omega, rfl, q7, hF7⟩
        case round =>
          clear q7 hF7 c1 lp2
          obtain ⟨j, hj, rfl, hq, hF⟩ := hrel
          obtain ⟨us', hg⟩ := hq.out
          have hgH := Lib.hid hg
          clear hg hq
          have c1 := hgH.out.c1
          have lp2 := hgH.out.lt
          have hul : us'.length = n - 1 := by rw [hgH.out.B.len]; simp only [rowsJ, List.length_append, List.length_map, List.length_take, List.length_drop, hR1lH.out]; omega
          by_cases hjn : j < n - 1
          · have hjI : (j : Int) < ((n - 1 : Nat) : Int) := by omega
            obtain ⟨u, hu⟩ : ∃ u, us'[j]? = some u := ⟨_, List.getElem?_eq_getElem (by omega)⟩
            obtain ⟨m, r, hr, ho⟩ := hgH.out.B.get hu
            have hr1 := hR1rH.out j hjn
            rw [rowsJ_get hr1] at hr
            obtain rfl := Option.some.inj hr
            have hm := ho.1
            rw [rowZ_len, Nat.mul_one] at hm
            subst hm
            obtain ⟨gj, cj, rfl⟩ : ∃ g c, u = .slice (some ⟨g, 0, none⟩) n c := by
              rcases ho.2 with ⟨_, h0⟩ | ⟨g, c, cur, hv, _⟩
              · omega
              · exact ⟨g, c, hv⟩
            obtain ⟨d1, f1, lB⟩ := Own2.cellAt hgH.out.B hul hu
            have hTj : TyAt wr gj 2 := TyAt.of_row ho rfl
            have hTB : TyAt wr gB 103 := TyAt.of_row hgH.out.B.outer rfl
            have hpj : ¬ p = gj := hgH.out.tyP.ne hTj (by decide)
            have hBj : ¬ gB = gj := hTB.ne hTj (by decide)
            have bj := (ho.lt gj rfl).1
            have bB' := (Own2.lt hgH.out.B gB rfl).1
            have lj := (ho.lt gj rfl).2
            have huH := Lib.hid hu
            have hoH := Lib.hid ho
            have hTjH := Lib.hid hTj
            have hr1H := Lib.hid hr1
            clear hu ho hTj hTB hr1
            have hwk : IntKind.i64.wrap ((k : Int) + 1) = (k : Int) + 1 := IntWalk.i64_in _ ⟨by omega, by omega⟩
            go_wp2_with fail
            refine wp_region_row (some gj) [(0, .q), (1, .q), (2, .q), (3, .q), (4, .q), (5, .q), (6, .q), (7, .q), (8, .q), (9, .q), (10, .q), (11, .q), (12, .q), (13, .q), (14, .q), (15, .g), (16, .q), (17, .b)] (by kernel_rfl) (by kernel_rfl) ?_
            simp only [pick, List.filterMap_cons, List.filterMap_nil, List.getElem?_toArray, List.getElem?_cons_zero, List.getElem?_cons_succ, Option.map_some]
            repeat (first | ((with_reducible refine wpR_p (fun K hK => ?_)); go_simp; refine hK _ ?_; clear hK K) | ((with_reducible refine wpR_q (fun K hK => ?_)); go_simp; (first | refine hK _ ?_ | (go_bits; refine hK _ ?_) | (go_bits; go_simp; refine hK _ ?_)); clear hK K))
            with_reducible refine wpR_g (fun K hK => ?_)
            go_simp
            refine (DelN_at (hoH.out.kept (grown_drew wr none) (Classical.em _)) (rowZ_one _ _ _) hk rfl rfl).mono ?_
            rintro e W8 ⟨rfl, ho8, hgr8⟩
            refine ⟨_, rfl, hgr8, hK _ _ ?_⟩
            clear hK K
            have hg9 := grown_two (grown_drew wr (some gj)) hgr8
            obtain ⟨d8, f8, l8, _⟩ := Own2.after hgH.out.B hul huH.out hg9
            have ho9 := Own2.grow hgH.out.B hul huH.out ho8 hg9 (.inl rfl)
            rw [show (rowZ (zeroP i k n M) n (skipN k j)).take (k * 1) ++ (rowZ (zeroP i k n M) n (skipN k j)).drop ((k + 1) * 1) = (rowZ (zeroP i k n M) n (skipN k j)).eraseIdx k by rw [Nat.mul_one, Nat.mul_one, ← List.eraseIdx_eq_take_drop_succ], rowsJ_set hr1H.out] at ho9
            have hgn : W8.grownBy (W8.setCell ⟨gB, j, none⟩ (.slice (some ⟨gj, 0, none⟩) (n - 1) cj)) (some gB) := ⟨rfl, rfl, rfl, by simp, fun i hi hne => Below.heap_setCell _ _ _ _ (fun e => hne (by rw [e]))⟩
            have hT8 : TyAt W8 gB 103 := TyAt.of_row (hgH.out.B.outer.kept hg9 (.inr fun e => hBj (by injection e))) rfl
            have hgN := Lib.hid (hgH.out.turnB2 (.inr ⟨j, _, huH.out, rfl⟩) (.inl rfl) hg9 hgn ho9)
            have hFN := Lib.hid (hF.out.trans ((FrG.of_grown hg9 bj hTjH.out (.inr (.inr (.inr rfl)))).trans (FrG.of_set (o := j) bB' hT8 (.inr (.inr (.inl rfl))) (.slice (some ⟨gj, 0, none⟩) (n - 1) cj))))
            have hbN : base ≤ W8.heap.size := by omega
            clear hgr8 ho8 hg9 ho9 hgn hT8
            repeat (first | ((with_reducible refine wpR_p (fun K hK => ?_)); go_simp; refine hK _ ?_; clear hK K) | ((with_reducible refine wpR_q (fun K hK => ?_)); go_simp; (first | refine hK _ ?_ | (go_bits; refine hK _ ?_) | (go_bits; go_simp; refine hK _ ?_)); clear hK K))
            with_reducible refine wpR_b (fun K hK => ?_)
            go_simp
            refine hK _ _ ?_
            clear hK K
            with_reducible refine wpR_nil ?_
            go_wp2_with fail
            go_roundg (n - 1 - (j + 1))
            case measure => omega
            case rel => exact ⟨j + 1, by omega, by go_num, Lib.hid ⟨_, hgN.out⟩, hFN⟩
          · obtain rfl : j = n - 1 := by omega
            go_wp2_with fail
            refine bodyPost_end (v := .tuple #[]) (by simp only [results, Tryz.results65]; go_simp) rfl ?_
            have := hgH.out
            rw [rowsJ_all hR1lH.out.symm, hR1eH.out] at this
            exact ⟨⟨_, rfl⟩, _, _, _, us', this, hF.out⟩
end Go.Proofs.YthieodccakphiaaGreat
