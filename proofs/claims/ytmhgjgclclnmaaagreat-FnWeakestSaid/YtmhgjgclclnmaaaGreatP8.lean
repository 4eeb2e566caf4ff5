/- Plain facts: flows on bonds grow by the first shortest ways. -/
import Derived.Test.YtmhgjgclclnmaaaGreatP7
import Derived.Test.YtmhgjgclclnmaaaGreatP2
namespace Go.Proofs.YtmhgjgclclnmaaaGreat
set_option linter.unusedSimpArgs false
set_option linter.unusedVariables false
theorem find_range_some {p : Nat → Bool} : ∀ {n i : Nat}, (List.range n).find? p = some i ↔ i < n ∧ p i = true ∧ ∀ j, j < i → p j = false := by
  intro n
  induction n with
  | zero => intro i; simp
  | succ n ih =>
    intro i
    rw [List.range_succ, List.find?_append]
    cases h : (List.range n).find? p with
    | some k =>
      have hk := (ih (i := k)).1 h
      simp only [Option.some_or]
      constructor
      · intro e
        injection e with e
        subst e
        exact ⟨by omega, hk.2⟩
      · intro ⟨h1, h2, h3⟩
        congr 1
        rcases Nat.lt_trichotomy k i with h4 | h4 | h4
        · have := h3 k h4
          rw [hk.2.1] at this; cases this
        · exact h4
        · have := hk.2.2 i h4
          rw [h2] at this; cases this
    | none =>
      have hn : ∀ j, j < n → p j = false := fun j hj => by
        have := List.find?_eq_none.1 h j (by simpa using hj)
        simpa using this
      simp only [Option.none_or]
      by_cases hp : p n = true
      · simp only [List.find?_cons, hp]
        constructor
        · intro e
          injection e with e
          subst e
          exact ⟨by omega, hp, hn⟩
        · intro ⟨h1, h2, h3⟩
          congr 1
          rcases Nat.lt_succ_iff_lt_or_eq.1 h1 with h4 | h4
          · have := hn i h4
            rw [h2] at this; cases this
          · exact h4.symm
      · have hp' : p n = false := by simpa using hp
        simp only [List.find?_cons, hp', List.find?_nil]
        constructor
        · intro e; cases e
        · intro ⟨h1, h2, h3⟩
          rcases Nat.lt_succ_iff_lt_or_eq.1 h1 with h4 | rfl
          · have := hn i h4
            rw [h2] at this; cases this
          · rw [hp'] at h2; cases h2
theorem find_range_none {p : Nat → Bool} {n : Nat} : (List.range n).find? p = none ↔ ∀ i, i < n → p i = false := by
  rw [List.find?_eq_none]
  simp
/-- good bonds between n points -/
structure BondsOk (n : Nat) (bs : List Bd) : Prop where
  a : ∀ (i : Nat) (e : Bd), bs[i]? = some e → e.a < n
  b : ∀ (i : Nat) (e : Bd), bs[i]? = some e → e.b < n
  ne : ∀ (i : Nat) (e : Bd), bs[i]? = some e → e.a ≠ e.b
  s : ∀ (i : Nat) (e : Bd), bs[i]? = some e → 0 < e.s ∧ e.s ≤ 4
def jo (e : Bd) (u v : Nat) : Bool := decide (e.a = u ∧ e.b = v ∨ e.a = v ∧ e.b = u)
/-- what more can go over a bond away from u -/
def rs (e : Bd) (fi : Int) (u : Nat) : Int := if e.a = u then e.s - fi else e.s + fi
def hitB (bs : List Bd) (f : Nat → Int) (u v i : Nat) : Bool := match bs[i]? with
  | some e => jo e u v && decide (0 < rs e (f i) u)
  | none => false
theorem hitB_eq {bs : List Bd} {f : Nat → Int} {u v i : Nat} {e : Bd} (h : bs[i]? = some e) : hitB bs f u v i = (jo e u v && decide (0 < rs e (f i) u)) := by unfold hitB; rw [h]
def firstB (bs : List Bd) (f : Nat → Int) (u v : Nat) : Option Nat := (List.range bs.length).find? (hitB bs f u v)
def edgeB (bs : List Bd) (f : Nat → Int) (u v : Nat) : Bool := (firstB bs f u v).isSome
def pushB (bs : List Bd) (f : Nat → Int) (u v : Nat) : Nat → Int := match firstB bs f u v with
  | some i => fun j => if j = i then (match bs[i]? with
    | some e => if e.a = u then f i + 1 else f i - 1
    | none => f i) else f j
  | none => f
theorem firstB_some {bs : List Bd} {f : Nat → Int} {u v i : Nat} : firstB bs f u v = some i ↔ i < bs.length ∧ hitB bs f u v i = true ∧ ∀ j, j < i → hitB bs f u v j = false := find_range_some
theorem edgeB_true {bs : List Bd} {f : Nat → Int} {u v : Nat} : edgeB bs f u v = true ↔ ∃ i e, bs[i]? = some e ∧ jo e u v = true ∧ 0 < rs e (f i) u := by
  unfold edgeB
  cases h : firstB bs f u v with
  | some i =>
    obtain ⟨h1, h2, _⟩ := firstB_some.1 h
    refine ⟨fun _ => ⟨i, _, List.getElem?_eq_getElem h1, ?_⟩, fun _ => rfl⟩
    rw [hitB_eq (List.getElem?_eq_getElem h1)] at h2
    simpa using h2
  | none =>
    refine ⟨(fun e => by cases e), fun ⟨i, e, he, h1, h2⟩ => ?_⟩
    have := find_range_none.1 h i (List.getElem?_eq_some_iff.1 he).1
    rw [hitB_eq he] at this
    simp [h1, h2] at this
theorem pushB_at {bs : List Bd} {f : Nat → Int} {u v i : Nat} {e : Bd} (h : firstB bs f u v = some i) (he : bs[i]? = some e) : pushB bs f u v = fun j => if j = i then (if e.a = u then f i + 1 else f i - 1) else f j := by
  unfold pushB
  rw [h]
  simp only [he]
/-- no flow is greater than the strength -/
def InvF (bs : List Bd) (f : Nat → Int) : Prop := ∀ (i : Nat) (e : Bd), bs[i]? = some e → -e.s ≤ f i ∧ f i ≤ e.s
theorem InvF.push {bs : List Bd} {f : Nat → Int} (h : InvF bs f) (u v : Nat) : InvF bs (pushB bs f u v) := by
  intro i e he
  cases hf : firstB bs f u v with
  | none =>
    unfold pushB; rw [hf]; exact h i e he
  | some k =>
    obtain ⟨h1, h2, _⟩ := firstB_some.1 hf
    have hk := List.getElem?_eq_getElem h1
    obtain ⟨d, hd⟩ : ∃ d, bs[k] = d := ⟨_, rfl⟩
    rw [hd] at hk
    rw [pushB_at hf hk]
    dsimp only
    by_cases e1 : i = k
    · subst e1
      rw [hk] at he
      obtain rfl := Option.some.inj he
      rw [hitB_eq hk] at h2
      simp only [Bool.and_eq_true, decide_eq_true_eq] at h2
      have h4 := h i d hk
      have h3 := h2.2
      unfold rs at h3
      rw [if_pos rfl]
      by_cases ha : d.a = u
      · rw [if_pos ha] at h3 ⊢
        omega
      · rw [if_neg ha] at h3 ⊢
        omega
    · rw [if_neg e1]; exact h i e he
/-- sums over the bonds: room and flow between two points -/
def roomM (bs : List Bd) : Nat → Nat → Nat → Int
  | 0, _, _ => 0
  | m + 1, u, v => roomM bs m u v + match bs[m]? with
    | some e => if jo e u v = true then e.s else 0
    | none => 0
def flowM (bs : List Bd) (f : Nat → Int) : Nat → Nat → Nat → Int
  | 0, _, _ => 0
  | m + 1, u, v => flowM bs f m u v + match bs[m]? with
    | some e => if e.a = u ∧ e.b = v then f m else if e.a = v ∧ e.b = u then - f m else 0
    | none => 0
theorem room_flow {n : Nat} {bs : List Bd} (hb : BondsOk n bs) {f : Nat → Int} (h : InvF bs f) (u v : Nat) : ∀ m, 0 ≤ roomM bs m u v - flowM bs f m u v ∧ (0 < roomM bs m u v - flowM bs f m u v ↔ ∃ i e, i < m ∧ bs[i]? = some e ∧ jo e u v = true ∧ 0 < rs e (f i) u) := by
  intro m
  induction m with
  | zero => exact ⟨by simp [roomM, flowM], fun h => by simp [roomM, flowM] at h, fun ⟨i, e, hi, _⟩ => by omega⟩
  | succ m ih =>
    simp only [roomM, flowM]
    cases he : bs[m]? with
    | none =>
      simp only [Int.add_zero]
      refine ⟨ih.1, fun h => ?_, fun ⟨i, e, hi, h1, h2⟩ => ?_⟩
      · obtain ⟨i, e, hi, h1⟩ := ih.2.1 h
        exact ⟨i, e, by omega, h1⟩
      · refine ih.2.2 ⟨i, e, ?_, h1, h2⟩
        rcases Nat.lt_succ_iff_lt_or_eq.1 hi with hi | rfl
        · exact hi
        · rw [he] at h1; cases h1
    | some e =>
      dsimp only
      have hne := hb.ne m e he
      have hi := h m e he
      have key : ∃ d : Int, (if jo e u v = true then e.s else 0) - (if e.a = u ∧ e.b = v then f m else if e.a = v ∧ e.b = u then -f m else 0) = d ∧ 0 ≤ d ∧ (0 < d ↔ jo e u v = true ∧ 0 < rs e (f m) u) := by
        by_cases h1 : e.a = u ∧ e.b = v
        · have hj : jo e u v = true := by simp [jo, h1]
          refine ⟨e.s - f m, by rw [if_pos hj, if_pos h1], by omega, ?_⟩
          simp only [hj, true_and, rs, h1.1, if_true]
        · by_cases h2 : e.a = v ∧ e.b = u
          · have hj : jo e u v = true := by simp [jo, h2]
            have hau : ¬ e.a = u := fun e' => hne (by rw [e', h2.2])
            refine ⟨e.s + f m, by rw [if_pos hj, if_neg h1, if_pos h2]; omega, by omega, ?_⟩
            simp only [hj, true_and, rs, if_neg hau]
          · have hj : jo e u v = false := by simp only [jo, h1, h2, or_false, decide_false]
            refine ⟨0, by rw [if_neg (by rw [hj]; decide), if_neg h1, if_neg h2]; rfl, by omega, ?_⟩
            simp [hj]
      obtain ⟨d, hd, hd0, hd1⟩ := key
      obtain ⟨ih1, ih2⟩ := ih
      have e1 : roomM bs m u v + (if jo e u v = true then e.s else 0) - (flowM bs f m u v + if e.a = u ∧ e.b = v then f m else if e.a = v ∧ e.b = u then -f m else 0) = (roomM bs m u v - flowM bs f m u v) + d := by omega
      rw [e1]
      refine ⟨by omega, fun h => ?_, fun ⟨i, e', hi, h1, h2, h3⟩ => ?_⟩
      · by_cases h4 : 0 < d
        · exact ⟨m, e, by omega, he, hd1.1 h4⟩
        · obtain ⟨i, e', hi, h5⟩ := ih2.1 (by omega)
          exact ⟨i, e', by omega, h5⟩
      · rcases Nat.lt_succ_iff_lt_or_eq.1 hi with hi | rfl
        · have := ih2.2 ⟨i, e', hi, h1, h2, h3⟩
          omega
        · rw [he] at h1
          obtain rfl := Option.some.inj h1
          have := hd1.2 ⟨h2, h3⟩
          omega
theorem free_edge {n : Nat} {bs : List Bd} (hb : BondsOk n bs) {f : Nat → Int} (h : InvF bs f) (u v : Nat) : decide (flowM bs f bs.length u v < roomM bs bs.length u v) = edgeB bs f u v := by
  rw [Bool.eq_iff_iff, decide_eq_true_eq, edgeB_true]
  obtain ⟨_, h2⟩ := room_flow hb h u v bs.length
  constructor
  · intro h3
    obtain ⟨i, e, _, h4⟩ := h2.1 (by omega)
    exact ⟨i, e, h4⟩
  · intro ⟨i, e, he, h4⟩
    have := h2.2 ⟨i, e, (List.getElem?_eq_some_iff.1 he).1, he, h4⟩
    omega
/-- one unit from u to v, in the matrix -/
def pushM (F : Nat → Nat → Int) (u v : Nat) : Nat → Nat → Int := fun a b => if a = u ∧ b = v then F u v + 1 else if a = v ∧ b = u then F v u - 1 else F a b
theorem flowM_other {bs : List Bd} {f g : Nat → Int} {m : Nat} (h : ∀ j, j < m → g j = f j) (a b : Nat) : flowM bs g m a b = flowM bs f m a b := by
  induction m with
  | zero => rfl
  | succ m ih =>
    simp only [flowM]
    rw [ih (fun j hj => h j (by omega)), h m (by omega)]
theorem flowM_push {n : Nat} {bs : List Bd} (hb : BondsOk n bs) {f : Nat → Int} {u v : Nat} (h : edgeB bs f u v = true) : flowM bs (pushB bs f u v) bs.length = pushM (flowM bs f bs.length) u v := by
  unfold edgeB at h
  cases hf : firstB bs f u v with
  | none => rw [hf] at h; cases h
  | some i =>
    obtain ⟨h1, h2, _⟩ := firstB_some.1 hf
    have he := List.getElem?_eq_getElem h1
    obtain ⟨e, hee⟩ : ∃ e, bs[i] = e := ⟨_, rfl⟩
    rw [hee] at he
    rw [pushB_at hf he]
    rw [hitB_eq he] at h2
    simp only [Bool.and_eq_true, jo, decide_eq_true_eq] at h2
    have hne := hb.ne i e he
    have key : ∀ m a b, flowM bs (fun j => if j = i then (if e.a = u then f i + 1 else f i - 1) else f j) m a b = flowM bs f m a b + if i < m then (if a = u ∧ b = v then 1 else if a = v ∧ b = u then -1 else 0) else 0 := by
      intro m a b
      induction m with
      | zero => simp [flowM]
      | succ m ih =>
        simp only [flowM]
        rw [ih]
        by_cases hm : m = i
        · subst hm
          rw [he]
          dsimp only
          rw [if_pos rfl, if_neg (Nat.lt_irrefl _), if_pos (Nat.lt_succ_self _)]
          rcases h2.1 with ⟨p1, p2⟩ | ⟨p1, p2⟩
          · subst p1 p2
            rw [if_pos rfl]
            by_cases c1 : e.a = a ∧ e.b = b
            · rw [if_pos c1, if_pos c1, if_pos ⟨c1.1.symm, c1.2.symm⟩]; omega
            · by_cases c2 : e.a = b ∧ e.b = a
              · rw [if_neg c1, if_neg c1, if_pos c2, if_pos c2, if_neg (fun c => c1 ⟨c.1.symm, c.2.symm⟩), if_pos ⟨c2.2.symm, c2.1.symm⟩]; omega
              · rw [if_neg c1, if_neg c1, if_neg c2, if_neg c2, if_neg (fun c => c1 ⟨c.1.symm, c.2.symm⟩), if_neg (fun c => c2 ⟨c.2.symm, c.1.symm⟩)]
          · subst p1 p2
            rw [if_neg hne]
            by_cases c1 : e.a = a ∧ e.b = b
            · have c3 : ¬ (a = e.b ∧ b = e.a) := fun c => hne (by rw [c1.1, c.1])
              rw [if_pos c1, if_pos c1, if_neg c3, if_pos ⟨c1.1.symm, c1.2.symm⟩]; omega
            · by_cases c2 : e.a = b ∧ e.b = a
              · rw [if_neg c1, if_neg c1, if_pos c2, if_pos c2, if_pos ⟨c2.2.symm, c2.1.symm⟩]; omega
              · rw [if_neg c1, if_neg c1, if_neg c2, if_neg c2, if_neg (fun c => c2 ⟨c.2.symm, c.1.symm⟩), if_neg (fun c => c1 ⟨c.1.symm, c.2.symm⟩)]
        · rw [if_neg hm]
          have : (i < m + 1) ↔ (i < m) := by omega
          simp only [this]
          omega
    funext a b
    rw [key, if_pos h1]
    unfold pushM
    by_cases c1 : a = u ∧ b = v
    · rw [if_pos c1, if_pos c1, c1.1, c1.2]
    · by_cases c2 : a = v ∧ b = u
      · rw [if_neg c1, if_neg c1, if_pos c2, if_pos c2, c2.1, c2.2]; omega
      · rw [if_neg c1, if_neg c1, if_neg c2, if_neg c2]; omega
end Go.Proofs.YtmhgjgclclnmaaaGreat
