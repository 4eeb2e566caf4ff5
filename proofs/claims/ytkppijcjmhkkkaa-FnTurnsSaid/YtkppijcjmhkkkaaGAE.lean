import Derived.Test.YtkppijcjmhkkkaaGAD
import Derived.Test.YtkppijcjmhkkkaaGAA
import Derived.OrdersIn
import Derived.RangeFuncCalls
set_option linter.unusedSimpArgs false
set_option linter.unusedVariables false
/- Walks: the checks of an assembly. -/

namespace Go.Proofs.Ytkppijcjmhkkkaa
open Go.RowKit
attribute [local go_sem] BelowBy.cell BelowBy.cell_drew stillUpon givesUpon
/-- what the program asks of a set and an assembly -/
def validAsmB (gs : List Gl) (ts : List Ti) (xs : List Pl) : Bool := validSetB gs ts && (hasFormB xs && allB xs.length (okTile ts.length xs))
/-- An assembly lies in block p. -/
structure AsmAt (w : World) (p op : Nat) (xs : List Pl) : Prop where
  lt : p < w.heap.size
  tl : ∃ A n c, w.cell? ⟨p, op, none⟩ = some (.slice A n c) ∧ RdSl 3 RPl w A n xs
theorem AsmAt.below {op : Nat} {w w' : World} {p : Nat} {xs : List Pl} (h : AsmAt w p op xs) (hb : Below w.heap.size w w') : AsmAt w' p op xs := by
  obtain ⟨A, n, c, h1, h2⟩ := h.tl
  exact ⟨Nat.lt_of_lt_of_le h.lt hb.size, ⟨A, n, c, (hb.cell (p := ⟨p, op, none⟩) h.lt).trans h1, h2.below RPl.stable hb⟩⟩
theorem okPl_eq0 {xs : List Pl} {e : Pl} (h : xs[0]? = some e) : okPl xs 0 = (validPt e.x e.y && inB e.t 0 159) := by
  unfold okPl; rw [h]; simp
theorem okPl_eqS {xs : List Pl} {k : Nat} {e d : Pl} (h : xs[k + 1]? = some e) (hd : xs[k]? = some d) : okPl xs (k + 1) = (validPt e.x e.y && inB e.t 0 159 && lessPt d.x d.y e.x e.y) := by
  unfold okPl; rw [h]; simp only [hd]
theorem hasFormB_bad {xs : List Pl} {k : Nat} (hk : k < xs.length) (h : okPl xs k = false) : hasFormB xs = false := by
  unfold hasFormB; rw [allB_false hk h]; rfl
theorem hasFormB_ok {xs : List Pl} (h1 : xs.length ≤ 500) (h : ∀ j, j < xs.length → okPl xs j = true) : hasFormB xs = true := by
  unfold hasFormB; rw [allB_true h]; simpa using h1
theorem hasFormB_long {xs : List Pl} (h1 : ¬ xs.length ≤ 500) : hasFormB xs = false := by
  unfold hasFormB; rw [decide_eq_false h1]; simp
end Go.Proofs.Ytkppijcjmhkkkaa
/- The rule for regions that draw their order, in a round of a loop over an iterator. -/



namespace Go.Proofs.Ytkppijcjmhkkkaa
open Go.RowKit
section
variable {P : Program} {ops : Array Oper}
def notDefer (o : Oper) : Bool := match o.op with | .defer _ => false | _ => true
def noDeferB (ops : Array Oper) : Bool := ops.toList.all notDefer
theorem noDeferB_spec {j : Nat} {o : Oper} (h : noDeferB ops = true) (hj : ops[j]? = some o) : ∀ c, o.op ≠ .defer c := by
  intro c hc
  have hm : o ∈ ops.toList := by
    rw [Array.mem_toList_iff]
    exact Array.mem_of_getElem? hj
  have := List.all_eq_true.1 h o hm
  simp [notDefer, hc] at this
theorem wpIn_of_gives (F : Fence) (n : Nat) (hF : ∀ f, F.fn f) (hdep : F.depth = none) (hcalls : ∀ f args w R, Calls P f args w R → CallsIn F (n - 1) P f args w R) {o : Oper} {a : Act} {w : World} {K : Act → World → Prop} {Q : Exit → Act → World → Prop} (hnd : ∀ c, o.op ≠ .defer c)
    (h : givesUpon P (fun v w' => K (a.put o.dst v) w') ((execOp a.eval o).run P w)) : o.wpIn F n P a w K Q := by
  unfold Oper.wpIn
  refine ⟨fun f _ => hF f, ?_⟩
  rw [Oper.semAt_eq _ _ _ hnd]
  generalize (execOp a.eval o).run P w = r at *
  cases r with
  | ok n w' =>
    cases n <;> simp only [givesUpon] at h <;> simp only [Oper.uponIn]
    case value v => exact h
    case skip => exact h
    case enter f args =>
      refine ⟨fun hh => (by rw [hdep] at hh; cases hh), hcalls _ _ _ _ (h.mono fun e w'' he => ?_)⟩
      obtain ⟨v, rfl, hk⟩ := he
      exact hk
  | halt x w' => simp only [givesUpon] at h
theorem wpOpIn_of_step (F : Fence) (n : Nat) (hF : ∀ f, F.fn f) (hdep : F.depth = none) (hcalls : ∀ f args w R, Calls P f args w R → CallsIn F (n - 1) P f args w R) (hnd : noDeferB ops = true) {j : Nat} {oj : Oper} {a : Act} {w : World} {K : Act → World → Prop} {Q : Exit → Act → World → Prop} (hj : ops[j]? = some oj)
    (h : opStep P ops oj (fun v w' => K (a.put oj.dst v) w') a w) : wpOpIn F n P ops Q j K a w := by
  unfold wpOpIn
  unfold opStep at h
  simp only [hj]
  split at h <;> rename_i hw <;> simp only [hw, if_true, if_false, Bool.false_eq_true]
  · exact wpIn_of_gives F n hF hdep hcalls (noDeferB_spec hnd hj) h
  · exact ⟨fun f _ => hF f, h⟩
theorem ord_soundIn (F : Fence) (n : Nat) (hF : ∀ f, F.fn f) (hdep : F.depth = none) (hcalls : ∀ f args w R, Calls P f args w R → CallsIn F (n - 1) P f args w R) (hnd : noDeferB ops = true) {Q : Exit → Act → World → Prop} (ord : List (Nat × Tag)) (hsel : Region.noSelect ops = true) (hcov : ∀ i, i < ops.size → ∃ x ∈ ord, x.1 = i)
    (hpw : ord.Pairwise (Rel2 ops)) (hsome : ∀ y ∈ ord, (ops[y.1]?).isSome = true) (htop : ∀ pre y post, ord = pre ++ y :: post → ∀ d ∈ depsOf ops y.1, ∃ x ∈ pre, x.1 = d) :
    ∀ (m : Nat) (listed : Array Bool) (a : Act) (w : World), (rem ord listed).length = m → Ideal ops listed → wpD P ops (Q .normal) (pick ops (rem ord listed)) a w → wpAnyIn F n P .any ops Q m listed a w := by
  have hlt : ∀ y ∈ ord, y.1 < ops.size := fun y hy => by
    have := hsome y hy
    rw [Option.isSome_iff_exists] at this
    obtain ⟨o, ho⟩ := this
    exact (Array.getElem?_eq_some_iff.1 ho).1
  intro m
  induction m with
  | zero =>
    intro listed a w hm hid h
    have hnil : rem ord listed = [] := List.eq_nil_of_length_eq_zero hm
    refine ⟨?_, by rw [hnil] at h; exact h⟩
    apply List.eq_nil_iff_forall_not_mem.2
    intro j hj
    obtain ⟨h1, h2, _⟩ := ready_deps hj
    obtain ⟨x, hx, rfl⟩ := hcov j h1
    have : x ∈ rem ord listed := List.mem_filter.2 ⟨hx, by simpa using h2⟩
    rw [hnil] at this
    cases this
  | succ m ih =>
    intro listed a w hm hid h
    refine ⟨fun h0 => ?_, fun j hj => ?_⟩
    · -- the first that has not come up is ready
      exfalso
      obtain ⟨y, rest, hrem⟩ : ∃ y rest, rem ord listed = y :: rest := by
        cases hr : rem ord listed with
        | nil => rw [hr] at hm; cases hm
        | cons y rest => exact ⟨y, rest, rfl⟩
      obtain ⟨pre, post, hord, hpre⟩ := List.filter_eq_cons_iff.1 hrem
      have hy : y ∈ ord := by rw [hord]; simp
      obtain ⟨o, ho⟩ := Option.isSome_iff_exists.1 (hsome y hy)
      have hun : listed.getD y.1 true = false := by
        have : y ∈ rem ord listed := by rw [hrem]; simp
        simpa using (List.mem_filter.1 this).2
      have : y.1 ∈ Region.ready .any ops listed := ready_of ho hun fun d hd => by
        obtain ⟨x, hx, rfl⟩ := htop pre y post hord d hd
        have h1 := hpre.1 x hx
        have hxl : x.1 < listed.size := by rw [hid.size]; exact hlt x (by rw [hord]; simp [hx])
        rw [← getD_tf hxl]
        simpa using h1
      rw [h0] at this
      cases this
    · obtain ⟨h1, h2, h3⟩ := ready_deps hj
      obtain ⟨x, hx, rfl⟩ := hcov j h1
      have hxr : x ∈ rem ord listed := List.mem_filter.2 ⟨hx, by simpa using h2⟩
      obtain ⟨pre, post, hsplit⟩ := List.append_of_mem hxr
      have hpwr : (rem ord listed).Pairwise (Rel2 ops) := hpw.filter _
      rw [hsplit, List.pairwise_append] at hpwr
      obtain ⟨_, hpc, hcross⟩ := hpwr
      obtain ⟨oj, hoj⟩ := Option.isSome_iff_exists.1 (hsome x hx)
      have hpre : ∀ y ∈ pre, Rel2 ops y x ∧ listed.getD y.1 false = false ∧ y ∈ ord := fun y hy => by
        have hyr : y ∈ rem ord listed := by rw [hsplit]; simp [hy]
        obtain ⟨hyo, hyu⟩ := List.mem_filter.1 hyr
        have hyl : y.1 < listed.size := by rw [hid.size]; exact hlt y hyo
        exact ⟨hcross y hy x (by simp), by rw [← getD_tf hyl]; simpa using hyu, hyo⟩
      have hno : ∀ y ∈ pre, ¬ Anc ops x.1 y.1 := fun y hy ha => by
        have := hid.anc ha h3
        rw [(hpre y hy).2.1] at this
        cases this
      have hstep := exch (P := P) (Q := Q .normal) (oj := oj) (tj := x.2) (post := pick ops post) (fun cs b => Region.noSelect_spec hsel x.1 oj cs b hoj) (pick ops pre) a w
        (by
          intro z hz
          obtain ⟨y, hy, hyz⟩ := List.mem_filterMap.1 hz
          obtain ⟨oy, hoy⟩ := Option.isSome_iff_exists.1 (hsome y (hpre y hy).2.2)
          rw [hoy] at hyz
          simp only [Option.map_some, Option.some.injEq] at hyz
          subst hyz
          refine ⟨?_, ?_, fun cs b => Region.noSelect_spec hsel y.1 oy cs b hoy⟩
          · cases hq : y.2 with
            | q => exact Or.inl rfl
            | p => exact Or.inr rfl
            | g => exact absurd ((hpre y hy).1.anc (by rw [hq]; rfl)) (hno y hy)
            | b => exact absurd ((hpre y hy).1.anc (by rw [hq]; rfl)) (hno y hy)
          · rcases (hpre y hy).1.apart with hd | hd
            · exact absurd (.one hd) (hno y hy)
            · unfold apartB at hd
              rw [hoy, hoj] at hd
              exact hd)
        (by
          intro hb z hz
          obtain ⟨y, hy, hyz⟩ := List.mem_filterMap.1 hz
          obtain ⟨oy, hoy⟩ := Option.isSome_iff_exists.1 (hsome y (hpre y hy).2.2)
          rw [hoy] at hyz
          simp only [Option.map_some, Option.some.injEq] at hyz
          subst hyz
          cases hq : y.2 with
          | p => rfl
          | q => exact absurd ((hpre y hy).1.anc (by rw [hq, hb]; rfl)) (hno y hy)
          | g => exact absurd ((hpre y hy).1.anc (by rw [hq]; rfl)) (hno y hy)
          | b => exact absurd ((hpre y hy).1.anc (by rw [hq]; rfl)) (hno y hy))
        (by
          have e : pick ops (rem ord listed) = pick ops pre ++ (oj, x.2) :: pick ops post := by
            rw [hsplit]; unfold pick; simp [List.filterMap_append, hoj]
          rw [← e]; exact h)
      have hrem' : rem ord (listed.setIfInBounds x.1 true) = pre ++ post := by
        have hx1 : x.1 < listed.size := by rw [hid.size]; exact h1
        have e1 : rem ord (listed.setIfInBounds x.1 true) = (rem ord listed).filter fun y => y.1 != x.1 := by
          unfold rem
          rw [List.filter_filter]
          apply List.filter_congr
          intro y hy
          by_cases hyx : x.1 = y.1
          · rw [← hyx]; simp [hx1]
          · have hne : (y.1 != x.1) = true := by simpa using fun h => hyx h.symm
            rw [getD_set_ne true hyx, hne]; simp
        rw [e1, hsplit, List.filter_append, List.filter_cons]
        have hp : pre.filter (fun y => y.1 != x.1) = pre := List.filter_eq_self.2 fun y hy => by simpa using (hpre y hy).1.ne
        have hq : post.filter (fun y => y.1 != x.1) = post := List.filter_eq_self.2 fun y hy => by
          have := (List.pairwise_cons.1 hpc).1 y hy
          simpa using fun e => this.ne e.symm
        rw [hp, hq]; simp
      refine wpOpIn_of_step F n hF hdep hcalls hnd hoj ?_
      have hlen : (pre ++ post).length = m := by
        have := hm
        rw [hsplit] at this
        simp at this ⊢
        omega
      have hid' : Ideal ops (listed.setIfInBounds x.1 true) := by
        refine ⟨by simp [hid.size], fun y hy d hd => ?_⟩
        by_cases hxy : x.1 = y
        · subst hxy; exact getD_set_true (h3 d hd)
        · rw [getD_set_ne false hxy] at hy
          exact getD_set_true (hid.closed y hy d hd)
      unfold opStep at hstep ⊢
      have e2 : ∀ v w', wpD P ops (Q .normal) (pick ops pre ++ pick ops post) (a.put oj.dst v) w' → wpAnyIn F n P .any ops Q m (listed.setIfInBounds x.1 true) (a.put oj.dst v) w' := fun v w' hh =>
        ih _ _ _ (by rw [hrem']; exact hlen) hid' (by rw [hrem']; unfold pick at hh ⊢; rw [List.filterMap_append]; exact hh)
      split at hstep <;> rename_i hw <;> simp only [hw, if_true, if_false, Bool.false_eq_true]
      · exact givesUpon_mono hstep fun v w' hh => e2 v w' hh.2
      · exact e2 _ _ hstep.2

/-- **The rule.** -/
theorem wpIn_region_ord {F : Fence} {n : Nat} (hF : ∀ f, F.fn f) (hdep : F.depth = none) (hcalls : ∀ f args w R, Calls P f args w R → CallsIn F (n - 1) P f args w R) {id : Nat} {Q : Exit → Act → World → Prop} {a : Act} {w : World} {l : List Oper} (ord : List (Nat × Tag)) (hm : P.follows .mixedOrders = true) (hB : ordB l.toArray ord = true) (hnd : noDeferB l.toArray = true)
    (h : wpD P l.toArray (Q .normal) (pick l.toArray ord) a w.drew) : (Code.region id l.toArray true).wpIn F n P Q a w := by
  simp only [ordB, Bool.and_eq_true, beq_iff_eq] at hB
  obtain ⟨⟨⟨hsel, hlen⟩, hcov⟩, hfrom⟩ := hB
  obtain ⟨hpw, _, hsome, htop⟩ := ordFrom_spec ord [] hfrom (fun _ h => by cases h)
  refine wpIn_region_any hm ?_
  have hall : rem ord (Array.replicate l.toArray.size false) = ord := List.filter_eq_self.2 fun y hy => by
    obtain ⟨o, ho⟩ := Option.isSome_iff_exists.1 (hsome y hy)
    have := (Array.getElem?_eq_some_iff.1 ho).1
    simp at this
    simp [this]
  have hs := ord_soundIn (P := P) F n hF hdep hcalls hnd (Q := Q) ord hsel (fun i hi => by
    have := List.all_eq_true.1 hcov i (List.mem_range.2 hi)
    obtain ⟨x, hx, hxi⟩ := List.any_eq_true.1 this
    exact ⟨x, hx, by simpa using hxi⟩) hpw hsome (fun pre y post he d hd => by
      rcases htop pre y post he d hd with ⟨x, hx, _⟩ | hx
      · cases hx
      · exact hx) l.toArray.size (Array.replicate l.toArray.size false) a w.drew (by rw [hall, hlen])
      ⟨by simp, fun y hy => by
        rcases Nat.lt_or_ge y l.toArray.size with h | h
        · simp at h; simp [h] at hy
        · simp at h; simp [h] at hy⟩ (by rw [hall]; exact h)
  exact hs
/-- in a round, every function let by -/
theorem wpIn_region_ordR {r n : Nat} {id : Nat} {Q : Exit → Act → World → Prop} {a : Act} {w : World} {l : List Oper} (ord : List (Nat × Tag)) (hm : P.follows .mixedOrders = true) (hB : ordB l.toArray ord = true) (hnd : noDeferB l.toArray = true)
    (h : wpD P l.toArray (Q .normal) (pick l.toArray ord) a w.drew) : (Code.region id l.toArray true).wpIn (Fence.wide.inRound r) n P Q a w :=
  wpIn_region_ord (fun _ => trivial) rfl (fun _ _ _ _ h => CallsIn.inRound r (callsIn_wide.2 h)) ord hm hB hnd h
theorem wpIn_region_ordW {n : Nat} {id : Nat} {Q : Exit → Act → World → Prop} {a : Act} {w : World} {l : List Oper} (ord : List (Nat × Tag)) (hm : P.follows .mixedOrders = true) (hB : ordB l.toArray ord = true) (hnd : noDeferB l.toArray = true)
    (h : wpD P l.toArray (Q .normal) (pick l.toArray ord) a w.drew) : (Code.region id l.toArray true).wpIn Fence.wide n P Q a w :=
  wpIn_region_ord (fun _ => trivial) rfl (fun _ _ _ _ h => callsIn_wide.2 h) ord hm hB hnd h
end
end Go.Proofs.Ytkppijcjmhkkkaa
/- Plain facts: what a valid assembly bears; places of points; strengths of bonds. -/


namespace Go.Proofs.Ytkppijcjmhkkkaa
open Go.RowKit
theorem allB_at {n k : Nat} {p : Nat → Bool} (h : allB n p = true) (hk : k < n) : p k = true := by
  simp only [allB, List.all_eq_true, List.mem_range] at h
  exact h k hk
theorem lt_of_get {α : Type} {xs : List α} {k : Nat} {e : α} (h : xs[k]? = some e) : k < xs.length := (List.getElem?_eq_some_iff.1 h).1
theorem lessPt_iff (ax ay bx b_y : Int) : lessPt ax ay bx b_y = true ↔ ay < b_y ∨ (ay = b_y ∧ ax < bx) := by
  rw [lessPt_eq]; simp
structure Valid (gs : List Gl) (ts : List Ti) (xs : List Pl) : Prop where
  len : xs.length ≤ 500
  gl : gs.length ≤ 200
  tl : ts.length ≤ 160
  pt : ∀ (k : Nat) (e : Pl), xs[k]? = some e → (-60 ≤ e.x ∧ e.x ≤ 60) ∧ (-60 ≤ e.y ∧ e.y ≤ 60)
  ti : ∀ (k : Nat) (e : Pl), xs[k]? = some e → ∃ t : Nat, e.t = t ∧ t < ts.length
  sorted : ∀ (i j : Nat) (d e : Pl), i < j → xs[i]? = some d → xs[j]? = some e → lessPt d.x d.y e.x e.y = true
  four : ∀ (j : Nat) (t : Ti), ts[j]? = some t → t.sides.length = 4
  side : ∀ (j : Nat) (t : Ti) (d : Nat) (v : Int), ts[j]? = some t → t.sides[d]? = some v → ∃ g : Nat, v = g ∧ g ≤ gs.length
  str : ∀ (j : Nat) (g : Gl), gs[j]? = some g → 1 ≤ g.s ∧ g.s ≤ 4
theorem valid_of {gs : List Gl} {ts : List Ti} {xs : List Pl} (h : validAsmB gs ts xs = true) : Valid gs ts xs := by
  unfold validAsmB validSetB hasFormB at h
  simp only [Bool.and_eq_true, decide_eq_true_eq] at h
  obtain ⟨⟨⟨h1, h2, h3⟩, hg, ht⟩, ⟨hf, h4⟩, htl⟩ := h
  have hpl : ∀ (k : Nat) (e : Pl), xs[k]? = some e → validPt e.x e.y = true ∧ inB e.t 0 159 = true := fun k e he => by
    have := allB_at hf (lt_of_get he)
    unfold okPl at this
    rw [he] at this
    simp only [Bool.and_eq_true] at this
    exact this.1
  have hstep : ∀ (k : Nat) (d e : Pl), xs[k]? = some d → xs[k + 1]? = some e → lessPt d.x d.y e.x e.y = true := fun k d e hd he => by
    have := allB_at hf (lt_of_get he)
    rw [okPl_eqS he hd] at this
    simp only [Bool.and_eq_true] at this
    exact this.2
  refine ⟨h4, h1, h3, fun k e he => ?_, fun k e he => ?_, ?_, fun j t hj => ?_, fun j t d v hj hd => ?_, fun j g hj => ?_⟩
  · have := (hpl k e he).1
    simp only [validPt, Bool.and_eq_true, inB_true] at this
    exact this
  · have := allB_at htl (lt_of_get he)
    unfold okTile at this
    rw [he] at this
    have := inB_true.1 this
    exact ⟨e.t.toNat, by omega, by omega⟩
  · intro i j d e hij hd he
    induction j generalizing e with
    | zero => omega
    | succ j ih =>
      have hj : j < xs.length := by have := lt_of_get he; omega
      obtain ⟨c, hc⟩ : ∃ c, xs[j]? = some c := ⟨_, List.getElem?_eq_getElem hj⟩
      have h2 := hstep j c e hc he
      rcases Nat.lt_or_ge i j with h | h
      · have h1 := ih c h hc
        rw [lessPt_iff] at h1 h2 ⊢
        omega
      · obtain rfl : i = j := by omega
        rw [hd] at hc
        obtain rfl := Option.some.inj hc
        exact h2
  · have := allB_at ht (lt_of_get hj)
    rw [okTi_eq hj] at this
    simp only [Bool.and_eq_true, decide_eq_true_eq] at this
    exact this.2.1
  · have := allB_at ht (lt_of_get hj)
    rw [okTi_eq hj] at this
    simp only [Bool.and_eq_true, decide_eq_true_eq] at this
    have := allB_at this.2.2.2 (lt_of_get hd)
    unfold okSide at this
    rw [hd] at this
    have := inB_true.1 this
    exact ⟨v.toNat, by omega, by omega⟩
  · have := allB_at hg (lt_of_get hj)
    rw [okGl_eq hj] at this
    simp only [Bool.and_eq_true] at this
    exact inB_true.1 this.2.1
/-- r is the place of the point, or -1 -/
def IsPlace (xs : List Pl) (x y r : Int) : Prop :=
  (r = -1 ∧ ∀ (k : Nat) (e : Pl), xs[k]? = some e → ¬ (e.x = x ∧ e.y = y)) ∨ ∃ (k : Nat) (e : Pl), r = k ∧ xs[k]? = some e ∧ e.x = x ∧ e.y = y
noncomputable def placeI (xs : List Pl) (x y : Int) : Int := Classical.epsilon (IsPlace xs x y)
theorem IsPlace.eq {gs : List Gl} {ts : List Ti} {xs : List Pl} (hV : Valid gs ts xs) {x y r : Int} (h : IsPlace xs x y r) : r = placeI xs x y := by
  have h' : IsPlace xs x y (placeI xs x y) := Classical.epsilon_spec ⟨r, h⟩
  rcases h with ⟨rfl, h⟩ | ⟨k, e, rfl, he, hx, hy⟩
  · rcases h' with ⟨h', _⟩ | ⟨k, e, _, he, hxy⟩
    · exact h'.symm
    · exact absurd hxy (h k e he)
  · rcases h' with ⟨_, h'⟩ | ⟨k', e', h', he', hx', hy'⟩
    · exact absurd ⟨hx, hy⟩ (h' k e he)
    · rw [h']
      rcases Nat.lt_trichotomy k k' with hk | hk | hk
      · have := (lessPt_iff _ _ _ _).1 (hV.sorted k k' e e' hk he he'); omega
      · rw [hk]
      · have := (lessPt_iff _ _ _ _).1 (hV.sorted k' k e' e hk he' he); omega
/-- what a binary search leaves -/
theorem place_found {xs : List Pl} {x y : Int} {k : Nat} {e : Pl} (he : xs[k]? = some e) (hx : e.x = x) (hy : e.y = y) : IsPlace xs x y k := Or.inr ⟨k, e, rfl, he, hx, hy⟩
theorem place_none {gs : List Gl} {ts : List Ti} {xs : List Pl} (hV : Valid gs ts xs) {x y : Int} {lo : Nat} (h1 : ∀ (j : Nat) (d : Pl), j < lo → xs[j]? = some d → lessPt d.x d.y x y = true) (h2 : ∀ (j : Nat) (d : Pl), lo ≤ j → xs[j]? = some d → lessPt d.x d.y x y = false)
    (h3 : ∀ (d : Pl), xs[lo]? = some d → ¬ (d.x = x ∧ d.y = y)) : IsPlace xs x y (-1) := by
  refine Or.inl ⟨rfl, fun k e he hxy => ?_⟩
  rcases Nat.lt_trichotomy k lo with hk | hk | hk
  · have := (lessPt_iff _ _ _ _).1 (h1 k e hk he); omega
  · subst hk; exact h3 e he hxy
  · obtain ⟨d, hd⟩ : ∃ d, xs[lo]? = some d := ⟨_, List.getElem?_eq_getElem (by have := lt_of_get he; omega)⟩
    have h4 := h2 lo d (Nat.le_refl _) hd
    have h5 := (lessPt_iff _ _ _ _).1 (hV.sorted lo k d e hk hd he)
    have h6 : ¬ (d.y < y ∨ (d.y = y ∧ d.x < x)) := by rw [← lessPt_iff, h4]; simp
    omega
theorem lessPt_trans {a b c d e f : Int} (h1 : lessPt a b c d = true) (h2 : lessPt c d e f = true) : lessPt a b e f = true := by
  rw [lessPt_iff] at *; omega
theorem lessPt_cmp (ax ay bx b_y : Int) : decide (cmpPt ax ay bx b_y < 0) = lessPt ax ay bx b_y := rfl
theorem cmpPt_zero (ax ay bx b_y : Int) : (cmpPt ax ay bx b_y == 0) = decide (ax = bx ∧ ay = b_y) := by
  rw [Bool.eq_iff_iff, beq_iff_eq, decide_eq_true_eq]
  unfold cmpPt orI cmpI
  constructor
  · intro h
    by_cases h1 : ay < b_y
    · rw [if_pos h1, if_pos (by decide)] at h; omega
    · rw [if_neg h1] at h
      by_cases h2 : b_y < ay
      · rw [if_pos h2, if_pos (by decide)] at h; omega
      · rw [if_neg h2, if_neg (by decide)] at h
        by_cases h3 : ax < bx
        · rw [if_pos h3] at h; omega
        · rw [if_neg h3] at h
          by_cases h4 : bx < ax
          · rw [if_pos h4] at h; omega
          · omega
  · rintro ⟨rfl, rfl⟩
    simp
/-- sides and strengths -/
def sideI (ts : List Ti) (t d : Nat) : Int := match ts[t]? with
  | none => 0
  | some ti => match ti.sides[d]? with
    | none => 0
    | some v => v
def strI (gs : List Gl) (v : Int) : Int := if v = 0 then 0 else match gs[(v - 1).toNat]? with
  | none => 0
  | some g => g.s
def oppN (d : Nat) : Nat := if d < 2 then d + 2 else d - 2
def bondI (gs : List Gl) (ts : List Ti) (a d b : Nat) : Int := if sideI ts a d = sideI ts b (oppN d) then strI gs (sideI ts a d) else 0
theorem sideI_eq {ts : List Ti} {t d : Nat} {ti : Ti} {v : Int} (h : ts[t]? = some ti) (hv : ti.sides[d]? = some v) : sideI ts t d = v := by
  unfold sideI; simp only [h, hv]
theorem strI_eq {gs : List Gl} {v : Nat} {g : Gl} (h : gs[v]? = some g) : strI gs ((v : Int) + 1) = g.s := by
  unfold strI; rw [if_neg (by omega)]
  have : ((v : Int) + 1 - 1).toNat = v := by omega
  simp only [this, h]
theorem strI_zero (gs : List Gl) : strI gs 0 = 0 := by simp [strI]
theorem oppI_nat {d : Nat} : oppI d = (oppN d : Int) := by
  unfold oppI oppN; split <;> split <;> omega
end Go.Proofs.Ytkppijcjmhkkkaa
