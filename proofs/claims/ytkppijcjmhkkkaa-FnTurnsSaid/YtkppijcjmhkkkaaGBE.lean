import Derived.Test.YtkppijcjmhkkkaaGAJ
import Derived.Test.YtkppijcjmhkkkaaGAD
import Derived.Test.YtkppijcjmhkkkaaGAL
import Derived.Maps.AppendAt
import Derived.Test.YtkppijcjmhkkkaaGBD
import Derived.Test.YtkppijcjmhkkkaaGBA
import Derived.Test.YtkppijcjmhkkkaaGAQ
import Derived.Test.YtkppijcjmhkkkaaGAE
import Derived.Test.YtkppijcjmhkkkaaGBB
import Derived.Test.YtkppijcjmhkkkaaGBC
set_option linter.unusedSimpArgs false
set_option linter.unusedVariables false
/- Rows of tiles that a call made: each tile's sides in a row of its own, no two in one block; rows of cells said by a code of their elements. -/




namespace Go.Proofs.Ytkppijcjmhkkkaa
open Go.RowKit Go.Shelf
/-- the cells of a row whose elements are coded by enc -/
def flatC {α : Type} (enc : α → List Value) : List α → List Value
  | [] => []
  | a :: l => enc a ++ flatC enc l
section
variable {α : Type} {enc : α → List Value} {size : Nat}
theorem flatC_len (h : ∀ a, (enc a).length = size) (l : List α) : (flatC enc l).length = l.length * size := by
  induction l with
  | nil => simp [flatC]
  | cons a l ih => rw [flatC, List.length_append, h, ih, List.length_cons, Nat.succ_mul]; omega
theorem flatC_snoc (l : List α) (a : α) : flatC enc (l ++ [a]) = flatC enc l ++ enc a := by
  induction l with
  | nil => simp [flatC]
  | cons b l ih => simp [flatC, ih]
theorem flatC_one (h : ∀ a, ∀ u ∈ enc a, u.oneCell' = true) (l : List α) : ∀ u ∈ flatC enc l, u.oneCell' = true := by
  induction l with
  | nil => simp [flatC]
  | cons a l ih =>
    intro u hu
    rw [flatC, List.mem_append] at hu
    rcases hu with hu | hu
    · exact h a u hu
    · exact ih u hu
theorem flatC_get (h : ∀ a, (enc a).length = size) : ∀ (l : List α) (k : Nat) (e : α), l[k]? = some e → ∀ j, j < size → (flatC enc l)[k * size + j]? = (enc e)[j]?
  | [], k, e, he => by simp at he
  | a :: l, 0, e, he => fun j hj => by
    simp at he
    subst he
    rw [flatC, Nat.zero_mul, Nat.zero_add, List.getElem?_append_left (by rw [h]; exact hj)]
  | a :: l, k + 1, e, he => fun j hj => by
    have := flatC_get h l k e (by simpa using he) j hj
    rw [flatC, List.getElem?_append_right (by rw [h, Nat.succ_mul]; omega), h, ← this]
    congr 1
    rw [Nat.succ_mul]; omega
theorem flatC_of_rd (hs : 0 < size) (h : ∀ a, (enc a).length = size) {w : World} {b o : Nat} {xs : List α} (hr : ∀ k e, xs[k]? = some e → ∀ j u, (enc e)[j]? = some u → w.cell? ⟨b, o + k * size + j, none⟩ = some u) :
    ∀ j u, (flatC enc xs)[j]? = some u → w.cell? ((⟨b, o, none⟩ : Addr).add j) = some u := by
  intro j u hj
  have hlt := (List.getElem?_eq_some_iff.1 hj).1
  rw [flatC_len h] at hlt
  have hk : j / size < xs.length := Nat.div_lt_of_lt_mul (by rw [Nat.mul_comm]; exact hlt)
  have hd : j / size * size + j % size = j := by rw [Nat.mul_comm]; exact Nat.div_add_mod j size
  have hm : j % size < size := Nat.mod_lt _ hs
  have hg := flatC_get h xs (j / size) _ (List.getElem?_eq_getElem hk) (j % size) hm
  rw [hd, hj] at hg
  have := hr (j / size) _ (List.getElem?_eq_getElem hk) (j % size) u hg.symm
  rw [Nat.add_assoc, hd] at this
  rw [Addr.add_lit]; exact this
theorem rd_of_flat (h : ∀ a, (enc a).length = size) {W : World} {base : Nat} {T : TypeId} {v : Value} {xs : List α} (hr : W.ownsRow base T size v xs.length (flatC enc xs)) :
    ∃ A cap, v = .slice A xs.length cap ∧ (0 < xs.length → ∃ g, A = some ⟨g, 0, none⟩ ∧ base ≤ g ∧ g < W.heap.size ∧ ∀ k e, xs[k]? = some e → ∀ j u, (enc e)[j]? = some u → W.cell? ⟨g, k * size + j, none⟩ = some u) := by
  rcases hr.2 with ⟨rfl, h0⟩ | ⟨g, cap, cur, rfl, hb, hh, hn, hm, hs, ht⟩
  · exact ⟨none, 0, by rw [h0], fun hp => by omega⟩
  · refine ⟨_, cap, rfl, fun hp => ⟨g, rfl, hb, (Array.getElem?_eq_some_iff.1 hh).1, fun k e he j u hu => ?_⟩⟩
    have hj : j < size := by have := (List.getElem?_eq_some_iff.1 hu).1; rw [h] at this; exact this
    have hg := flatC_get h xs k e he j hj
    rw [← ht, hu, List.getElem?_take] at hg
    split at hg
    · simp only [World.cell?, hh]
      simpa using hg
    · cases hg
end
theorem ownsRow_lo {w : World} {base base' : Nat} {e : TypeId} {size : Nat} {v : Value} {n : Nat} {xs : List Value} (h : w.ownsRow base e size v n xs) (hb : base' ≤ base) : w.ownsRow base' e size v n xs :=
  ⟨h.1, h.2.imp id (fun ⟨g, cap, cur, h1, h2, h3⟩ => ⟨g, cap, cur, h1, Nat.le_trans hb h2, h3⟩)⟩
theorem ownsRow_setB {w : World} {base : Nat} {e : TypeId} {size : Nat} {v : Value} {n : Nat} {xs : List Value} (h : w.ownsRow base e size v n xs) {p : Addr} (hp : p.block < base) (x : Value) : (w.setCell p x).ownsRow base e size v n xs := by
  refine h.kept (row := some p.block) ⟨rfl, rfl, rfl, by simp, fun k hk hne => Below.heap_setCell _ _ _ _ (fun e => hne (by rw [e]))⟩ ?_
  cases hb : v.ownBlock with
  | none => exact .inl rfl
  | some g => exact .inr fun e' => by have := (h.lt g hb).1; injection e'; omega
def encGl (e : Gl) : List Value := [.string e.name, .int .i64 e.s]
def encI (e : Int) : List Value := [.int .i64 e]
def encNU (e : ByteArray × Value) : List Value := [.string e.1, e.2]
theorem encGl_len (e : Gl) : (encGl e).length = 2 := rfl
theorem encI_len (e : Int) : (encI e).length = 1 := rfl
theorem encNU_len (e : ByteArray × Value) : (encNU e).length = 2 := rfl
theorem encGl_one (e : Gl) : ∀ u ∈ encGl e, u.oneCell' = true := fun u hu => by simp [encGl] at hu; rcases hu with rfl | rfl <;> rfl
theorem encI_one (e : Int) : ∀ u ∈ encI e, u.oneCell' = true := fun u hu => by simp [encI] at hu; subst hu; rfl
theorem rdGl_of_flat {W : World} {base : Nat} {T : TypeId} {v : Value} {xs : List Gl} (hr : W.ownsRow base T 2 v xs.length (flatC encGl xs)) : ∃ A cap, v = .slice A xs.length cap ∧ RdSl 2 RGl W A xs.length xs := by
  obtain ⟨A, cap, hv, h⟩ := rd_of_flat encGl_len hr
  refine ⟨A, cap, hv, rfl, fun hp => ?_⟩
  obtain ⟨g, hA, _, hg, hc⟩ := h hp
  exact ⟨g, 0, hA, hg, fun k hk => by
    have h0 := hc k _ (List.getElem?_eq_getElem hk) 0 _ rfl
    have h1 := hc k _ (List.getElem?_eq_getElem hk) 1 _ rfl
    rw [Nat.zero_add]; exact ⟨h0, h1⟩⟩
theorem rdI_of_flat {W : World} {base : Nat} {T : TypeId} {v : Value} {xs : List Int} (hr : W.ownsRow base T 1 v xs.length (flatC encI xs)) : ∃ A cap, v = .slice A xs.length cap ∧ RdSl 1 RInt W A xs.length xs := by
  obtain ⟨A, cap, hv, h⟩ := rd_of_flat encI_len hr
  refine ⟨A, cap, hv, rfl, fun hp => ?_⟩
  obtain ⟨g, hA, _, hg, hc⟩ := h hp
  exact ⟨g, 0, hA, hg, fun k hk => by
    have h0 := hc k _ (List.getElem?_eq_getElem hk) 0 _ rfl
    rw [Nat.zero_add]; exact h0⟩
/-- v owns a row of tiles: names and slices us; each slice owns its sides; no two lie in one block -/
structure OwnT (w : World) (base : Nat) (T E : TypeId) (v : Value) (us : List Value) (ts : List Ti) : Prop where
  len : us.length = ts.length
  outer : w.ownsRow base T 2 v us.length (flatC encNU ((ts.map Ti.name).zip us))
  inner : ∀ (k : Nat) (u : Value) (t : Ti), us[k]? = some u → ts[k]? = some t → w.ownsRow base E 1 u t.sides.length (flatC encI t.sides)
  apart : ∀ (j k : Nat) (u u' : Value) (g : Nat), us[j]? = some u → us[k]? = some u' → u.ownBlock = some g → u'.ownBlock = some g → j = k
  off : ∀ (k : Nat) (u : Value) (g : Nat), us[k]? = some u → u.ownBlock = some g → v.ownBlock ≠ some g
section
variable {w w' : World} {base : Nat} {T E : TypeId} {v : Value} {us : List Value} {ts : List Ti}
theorem OwnT.of_empty (h : w.ownsRow base T 2 v 0 []) : OwnT w base T E v [] [] :=
  ⟨rfl, h, fun k u r h => by simp at h, fun j k u u' g h => by simp at h, fun k u g h => by simp at h⟩
theorem OwnT.nil (w : World) (base : Nat) (T E : TypeId) : OwnT w base T E (.slice none 0 0) [] [] := OwnT.of_empty (World.ownsRow_nil _ _ _ _)
theorem OwnT.get (h : OwnT w base T E v us ts) {k : Nat} {u : Value} (hu : us[k]? = some u) : ∃ t, ts[k]? = some t ∧ w.ownsRow base E 1 u t.sides.length (flatC encI t.sides) := by
  have hk := (List.getElem?_eq_some_iff.1 hu).1
  have hr := List.getElem?_eq_getElem (l := ts) (i := k) (by rw [← h.len]; exact hk)
  exact ⟨_, hr, h.inner k u _ hu hr⟩
theorem OwnT.lt (h : OwnT w base T E v us ts) : ∀ g, v.ownBlock = some g → base ≤ g ∧ g < w.heap.size := h.outer.lt
theorem OwnT.ltIn (h : OwnT w base T E v us ts) {k : Nat} {u : Value} (hu : us[k]? = some u) : ∀ g, u.ownBlock = some g → base ≤ g ∧ g < w.heap.size := by
  obtain ⟨t, _, hr⟩ := h.get hu
  exact hr.lt
theorem OwnT.kept {row : Option Nat} (h : OwnT w base T E v us ts) (hg : w.grownBy w' row) (h1 : ∀ g, row = some g → v.ownBlock ≠ some g ∧ ∀ (k : Nat) (u : Value), us[k]? = some u → u.ownBlock ≠ some g) : OwnT w' base T E v us ts := by
  have ho : ∀ x : Value, (∀ g, row = some g → x.ownBlock ≠ some g) → x.ownBlock = none ∨ x.ownBlock ≠ row := fun x hx => by
    cases hb : x.ownBlock with
    | none => exact .inl rfl
    | some g => exact .inr fun e => hx g e.symm hb
  exact ⟨h.len, h.outer.kept hg (ho v fun g e => (h1 g e).1), fun k u r hu hr => (h.inner k u r hu hr).kept hg (ho u fun g e => (h1 g e).2 k u hu), h.apart, h.off⟩
theorem OwnT.below (h : OwnT w base T E v us ts) (hb : Below w.heap.size w w') : OwnT w' base T E v us ts :=
  h.kept (grown_below hb none) (fun g e => by cases e)
theorem OwnT.alloc (h : OwnT w base T E v us ts) (o : Obj) : OwnT (w.alloc o) base T E v us ts :=
  h.kept (World.grownBy_alloc w o none) (fun g e => by cases e)
theorem OwnT.rebase (h : OwnT w base T E v us ts) {base' : Nat} (hb : base' ≤ base) : OwnT w base' T E v us ts := by
  have hd : ∀ {e s x n xs}, w.ownsRow base e s x n xs → w.ownsRow base' e s x n xs := fun h => ⟨h.1, h.2.imp id (fun ⟨g, cap, cur, h1, h2, h3⟩ => ⟨g, cap, cur, h1, Nat.le_trans hb h2, h3⟩)⟩
  exact ⟨h.len, hd h.outer, fun k u r hu hr => hd (h.inner k u r hu hr), h.apart, h.off⟩
theorem OwnT.setBelow (h : OwnT w base T E v us ts) {p : Addr} (hp : p.block < base) (x : Value) : OwnT (w.setCell p x) base T E v us ts := by
  refine h.kept (row := some p.block) ⟨rfl, rfl, rfl, by simp, fun k hk hne => Below.heap_setCell _ _ _ _ (fun e => hne (by rw [e]))⟩ (fun g e => ?_)
  injection e with e
  subst e
  refine ⟨fun e => ?_, fun k u hu e => ?_⟩
  · have := (h.lt _ e).1; omega
  · have := (h.ltIn hu _ e).1; omega
/-- one more tile t, whose sides the slice x owns -/
theorem OwnT.push {w1 : World} {v' x : Value} {N : Nat} {t : Ti} (h : OwnT w1 base T E v us ts) (hN : us.length = N) (hx : w1.ownsRow base E 1 x t.sides.length (flatC encI t.sides))
    (hd : ∀ g, x.ownBlock = some g → v.ownBlock ≠ some g ∧ ∀ (k : Nat) (u : Value), us[k]? = some u → u.ownBlock ≠ some g)
    (hown : w'.ownsRow base T 2 v' (N + 1) (flatC encNU ((ts.map Ti.name).zip us) ++ [.string t.name, x])) (hg : w1.grownBy w' v.ownBlock) (hat : v'.ownBlock = v.ownBlock ∨ v'.ownBlock = some w1.heap.size) : OwnT w' base T E v' (us ++ [x]) (ts ++ [t]) := by
  subst hN
  have hk : ∀ {u : Value} {n : Nat} {r : List Value}, w1.ownsRow base E 1 u n r → (∀ g, u.ownBlock = some g → v.ownBlock ≠ some g) → w'.ownsRow base E 1 u n r := fun {u n r} hu hne => by
    refine hu.kept hg ?_
    cases hb : u.ownBlock with
    | none => exact .inl rfl
    | some g => exact .inr fun e => hne g hb e.symm
  have hcase : ∀ {k : Nat} {u : Value}, (us ++ [x])[k]? = some u → (k < us.length ∧ us[k]? = some u) ∨ (k = us.length ∧ u = x) := fun {k u} hu => by
    rcases Nat.lt_or_ge k us.length with hlt | hge
    · rw [List.getElem?_append_left hlt] at hu
      exact .inl ⟨hlt, hu⟩
    · have hlt := (List.getElem?_eq_some_iff.1 hu).1
      simp at hlt
      obtain rfl : k = us.length := by omega
      simp at hu
      exact .inr ⟨rfl, hu.symm⟩
  refine ⟨by simp [h.len], ?_, fun k u q hu hq => ?_, fun j k u u' g hu0 hu' hb hb' => ?_, fun k u g hu hb e => ?_⟩
  · rw [List.map_append, List.zip_append (by simp [h.len]), List.length_append, List.length_singleton]
    show w'.ownsRow base T 2 v' (us.length + 1) (flatC encNU ((ts.map Ti.name).zip us ++ [(t.name, x)]))
    rw [flatC_snoc]; exact hown
  · rcases hcase hu with ⟨hlt, hu⟩ | ⟨rfl, rfl⟩
    · rw [List.getElem?_append_left (by rw [← h.len]; exact hlt)] at hq
      exact hk (h.inner k u q hu hq) fun g hg => h.off k u g hu hg
    · rw [h.len] at hq
      simp at hq
      subst hq
      exact hk hx fun g hg => (hd g hg).1
  · rcases hcase hu0 with ⟨hlt, hu⟩ | ⟨rfl, rfl⟩
    · clear hu0
      rcases hcase hu' with ⟨hlt', hu'⟩ | ⟨rfl, rfl⟩
      · exact h.apart j k u u' g hu hu' hb hb'
      · exact ((hd g hb').2 j u hu hb).elim
    · rcases hcase hu' with ⟨hlt', hu'⟩ | ⟨rfl, rfl⟩
      · exact ((hd g hb).2 k u' hu' hb').elim
      · rfl
  · rcases hcase hu with ⟨hlt, hu⟩ | ⟨rfl, rfl⟩
    · rcases hat with hat | hat
      · exact h.off k u g hu hb (hat ▸ e)
      · have := (h.ltIn hu g hb).2
        rw [hat] at e
        injection e with e
        omega
    · rcases hat with hat | hat
      · exact (hd g hb).1 (hat ▸ e)
      · have := (hx.lt g hb).2
        rw [hat] at e
        injection e with e
        omega
theorem OwnT.rd (h : OwnT w base T E v us ts) : ∃ A cap, v = .slice A ts.length cap ∧ RdSl 2 RTi w A ts.length ts := by
  have hz : ((ts.map Ti.name).zip us).length = us.length := by simp [h.len]
  obtain ⟨A, cap, hv, hc⟩ := rd_of_flat encNU_len (by rw [hz]; exact h.outer)
  rw [hz, h.len] at hv hc
  refine ⟨A, cap, hv, rfl, fun hp => ?_⟩
  obtain ⟨g, hA, _, hg, hc⟩ := hc hp
  refine ⟨g, 0, hA, hg, fun k hk => ?_⟩
  have hku : k < us.length := by rw [h.len]; exact hk
  have hzk : ((ts.map Ti.name).zip us)[k]? = some (ts[k].name, us[k]) := by
    rw [List.getElem?_eq_getElem (by rw [hz]; exact hku)]
    simp [List.getElem_zip]
  have h0 := hc k _ hzk 0 _ rfl
  have h1 := hc k _ hzk 1 _ rfl
  obtain ⟨A2, c2, hu, hr⟩ := rdI_of_flat (h.inner k _ _ (List.getElem?_eq_getElem hku) (List.getElem?_eq_getElem hk))
  rw [Nat.zero_add]
  refine ⟨h0, A2, _, c2, ?_, hr⟩
  rw [← hu]; exact h1
end
section
variable {P : Program} {ops : Array Oper}
theorem wpD_append_atN {o : Oper} {rest : List (Oper × Tag)} {a : Act} {w : World} {Q : Act → World → Prop} (hgd : o.guard = none) (s x : Operand) (t : TypeId)
    (ho : o.op = .call { callee := .builtin .append, args := #[s, x], argTypes := #[t, t] })
    (base : Nat) (e : TypeId) (i : TypeInfo) (z : Value) (size bytes : Nat) (ht : P.underlying t = some (.slice e)) (hi : P.info? e = some i) (hz : i.zero = some z)
    (hsize : i.size = size) (hby : i.bytes = bytes) (hzs : z.cells.size = size) (hsz : 0 < size)
    (v : Value) (n : Nat) (xs : List Value) (hs : a.eval s = v) (hown : w.ownsRow base e size v n xs)
    (ad : Addr) (m c : Nat) (news : List Value) (hx : a.eval x = .slice (some ad) m c) (hl : news.length = m * size) (hnews : ∀ j u, news[j]? = some u → w.cell? (ad.add j) = some u) (h1 : ∀ u ∈ news, u.oneCell' = true)
    (h63 : n + m ≤ maxLen) (hbytes : (n + m) * bytes ≤ 140737488355328) (hbase : base ≤ w.heap.size)
    (h : ∀ v' w', w'.ownsRow base e size v' (n + m) (xs ++ news) → w.grownBy w' v.ownBlock → (v'.ownBlock = v.ownBlock ∨ v'.ownBlock = some w.heap.size) → wpD P ops Q rest (a.put o.dst v') w') : wpD P ops Q ((o, .b) :: rest) a w := by
  refine wpD_b fun K hK => ?_
  have hw : Region.wanted o (yielded ops a.tmps) = true := by simp [Region.wanted, hgd]
  rw [if_pos hw]
  obtain ⟨v', w', hrun, h2, h3, _, h4⟩ := run_append_own_at (P := P) w base t o.type e i z size bytes ht hi hz hsize hby hzs hsz v n xs hown ad m c news hl hnews h1 h63 hbytes hbase
  unfold execOp
  simp only [ho, resolve, invoke, builtin, Sem.run_bind, Sem.run_pure, Result.andThen_ok, List.map_toArray, List.map_cons, List.map_nil, hs, hx, hrun]
  exact hK _ _ (h v' w' h2 h3 h4)
end
theorem cell_two_newN (w : World) (a b : Value) (t : TypeId) : ∀ j u, [a, b][j]? = some u → (w.alloc (Obj.cells #[a, b] t)).cell? ((⟨w.heap.size, 0, none⟩ : Addr).add j) = some u := by
  intro j u hj
  match j, hj with
  | 0, hj => simp at hj; subst hj; simp [Addr.add]
  | 1, hj => simp at hj; subst hj; simp [Addr.add]
  | j + 2, hj => simp at hj
end Go.Proofs.Ytkppijcjmhkkkaa
/- Walks: numbers drawn from a source, its bytes left open; appends in regions with calls that turn the source. -/


namespace Go.Proofs.Ytkppijcjmhkkkaa
open Go.RowKit
attribute [local go_sem] BelowBy.cell BelowBy.cell_drew stillUpon givesUpon KpBy.cell KpBy.cell_drew

/-- a source in block p of which at most K numbers were asked -/
def SrcE (w : World) (p K : Nat) : Prop := ∃ (C : Option Addr) (n c : Nat) (bs : List Nat) (a s : Nat), Src w p C n c bs a s ∧ a ≤ K ∧ n ≤ 1000000
theorem SrcE.lt {w : World} {p K : Nat} (h : SrcE w p K) : p < w.heap.size := by obtain ⟨_, _, _, _, _, _, h, _⟩ := h; exact h.lt
theorem SrcE.below {w w' : World} {p K : Nat} (h : SrcE w p K) (hb : Below w.heap.size w w') : SrcE w' p K := by
  obtain ⟨C, n, c, bs, a, s, h, h1, h2⟩ := h; exact ⟨C, n, c, bs, a, s, h.below hb, h1, h2⟩
theorem SrcE.belowB {B : Nat} {w w' : World} {p K : Nat} (h : SrcE w p K) (hp : p < B) (hb : Below B w w') : SrcE w' p K := by
  obtain ⟨C, n, c, bs, a, s, h, h1, h2⟩ := h; exact ⟨C, n, c, bs, a, s, h.belowB hp hb, h1, h2⟩
theorem SrcE.more {w : World} {p K K' : Nat} (h : SrcE w p K) (hk : K ≤ K') : SrcE w p K' := by
  obtain ⟨C, n, c, bs, a, s, h, h1, h2⟩ := h; exact ⟨C, n, c, bs, a, s, h, Nat.le_trans h1 hk, h2⟩
/-- a drawn number -/
def PickE (p K N : Nat) (w : World) (e : Ending) (w' : World) : Prop := ∃ v : Nat, e = .returned (.int .i64 (v : Int)) ∧ v < N ∧ SrcE w' p (K + 1) ∧ Kp p w w'
theorem pickE_any {p K : Nat} {N : Int} (M : Nat) {w : World} (h : SrcE w p K) (hK : K ≤ 900000) (hN : N = M) (h1 : 1 ≤ M) (h2 : M ≤ 200) :
    Calls Try.prog 21 #[.pointer (some ⟨p, 0, none⟩), .int .i64 N] w (PickE p K M w) := by
  subst hN
  obtain ⟨C, n, c, bs, a, s, h, ha, hn⟩ := h
  rcases Nat.lt_or_ge M 2 with h3 | h3
  · obtain rfl : M = 1 := by omega
    have hH := Lib.hid h
    clear h
    go_enter Try.func21, Try.ntmps21
    go_wp2
    go_ret
    exact ⟨0, rfl, by omega, ⟨C, n, c, bs, a, s, hH.out, by omega, hn⟩, Kp.refl _ _⟩
  · refine (pick_any h (by omega) hn h3 h2).mono ?_
    rintro e w1 ⟨v, s', rfl, hv, hS, hk⟩
    exact ⟨v, rfl, hv, ⟨C, n, c, bs, _, _, hS, by omega, hn⟩, hk⟩
def OneE (p K : Nat) (w : World) (e : Ending) (w' : World) : Prop := ∃ v : Bool, e = .returned (.bool v) ∧ SrcE w' p (K + 1) ∧ Kp p w w'
set_option maxRecDepth 100000 in
theorem oneE_any {p K : Nat} {N : Int} (M : Nat) {w : World} (h : SrcE w p K) (hK : K ≤ 900000) (hN : N = M) (h1 : 1 ≤ M) (h2 : M ≤ 200) :
    Calls Try.prog 41 #[.pointer (some ⟨p, 0, none⟩), .int .i64 N] w (OneE p K w) := by
  subst hN
  have hH := Lib.hid h
  clear h
  go_enter Try.func41, Try.ntmps41
  go_wp2_with (go_at_call 21; refine (pickE_any M hH.out hK rfl h1 h2).mono ?_; rintro e w1 ⟨v, rfl, hv, hS, hb⟩; have hSH := Lib.hid hS; have hbH := Lib.hid hb; clear hS hb)
  go_ret
  exact ⟨_, rfl, hSH.out, hbH.out⟩
theorem l00FromE_any {C : Option Addr} {n c : Nat} {bs : List Nat} {w : World} (h : RdSl 1 RBy w C n bs) (hn : n ≤ 1000000) :
    Calls Try.prog 20 #[.slice C n c] w fun e w' => ∃ p, e = .returned (.pointer (some ⟨p, 0, none⟩)) ∧ w.heap.size ≤ p ∧ SrcE w' p 0 ∧ Below w.heap.size w w' := by
  refine (l00From_any _ h).mono ?_
  rintro e w1 ⟨p, rfl, hp, hS, hb⟩
  exact ⟨p, rfl, hp, ⟨C, n, c, bs, 0, 0, hS, Nat.le_refl _, hn⟩, hb⟩
/-- the blocks of a world but the source's -/
theorem Kp.blockOf {p : Nat} {w w' : World} (h : Kp p w w') {b : Nat} (hb : b ≠ p) (hl : b < w.heap.size) : w'.heap[b]? = w.heap[b]? := h.keep b hb hl
theorem Kp.lt {p : Nat} {w w' : World} (h : Kp p w w') {b : Nat} (hl : b < w.heap.size) : b < w'.heap.size := Nat.lt_of_lt_of_le hl h.below.size
theorem Kp.grown {p : Nat} {w w' : World} (h : Kp p w w') : w.grownBy w' (some p) := ⟨h.below.os, h.below.tape, h.below.output, h.below.size, fun k hk hne => h.keep k (fun e => hne (by rw [e])) hk⟩
theorem Kp.thenGrown {p B : Nat} {w w1 w2 : World} {row : Option Nat} (h : Kp p w w1) (hB : w.heap.size ≤ B) (hBw : B ≤ w1.heap.size) (hpw : p < w.heap.size) (hg : w1.grownBy w2 row) (hr : ∀ g, row = some g → B ≤ g) : Kp p w w2 := by
  have hb : Below B w1 w2 := (Below.refl B w1).grown hg hBw hr
  exact h.thenB hpw (hb.mono hB)
theorem Own_kp {p B : Nat} {w w' : World} {e : TypeId} {size : Nat} {v : Value} {n : Nat} {xs : List Value} (h : w.ownsRow B e size v n xs) (hp : p < B) (hk : Kp p w w') : w'.ownsRow B e size v n xs := by
  refine h.kept hk.grown ?_
  cases hb : v.ownBlock with
  | none => exact .inl rfl
  | some g => exact .inr fun e' => by have := (h.lt g hb).1; injection e'; omega
theorem OwnT.kp {p B : Nat} {w w' : World} {T E : TypeId} {v : Value} {us : List Value} {ts : List Ti} (h : OwnT w B T E v us ts) (hp : p < B) (hk : Kp p w w') : OwnT w' B T E v us ts :=
  h.kept hk.grown fun g e => by
    injection e with e
    subst e
    exact ⟨fun e' => by have := (h.lt _ e').1; omega, fun k u hu e' => by have := (h.ltIn hu _ e').1; omega⟩
theorem ownsRow_bB {w w' : World} {base B0 : Nat} {e : TypeId} {size : Nat} {v : Value} {n : Nat} {xs : List Value} (h : w.ownsRow base e size v n xs) (hlt : ∀ g, v.ownBlock = some g → g < B0) (hb : Below B0 w w') : w'.ownsRow base e size v n xs := by
  rcases h.2 with ⟨rfl, h0⟩ | ⟨g, cap, cur, rfl, h1, h2, h3⟩
  · exact ⟨h.1, .inl ⟨rfl, h0⟩⟩
  · exact ⟨h.1, .inr ⟨g, cap, cur, rfl, h1, (hb.block g (hlt g rfl)).trans h2, h3⟩⟩
theorem OwnT.bB {w w' : World} {base B0 : Nat} {T E : TypeId} {v : Value} {us : List Value} {ts : List Ti} (h : OwnT w base T E v us ts) (hl : w.heap.size ≤ B0) (hb : Below B0 w w') : OwnT w' base T E v us ts := h.below (hb.mono hl)
/-- a box of the call's own: its cells, none of them frozen -/
structure Bx (W : World) (b : Nat) (l : List Value) : Prop where
  lt : b < W.heap.size
  cell : ∀ j u, l[j]? = some u → W.cell? ⟨b, j, none⟩ = some u
  froz : ∀ j, W.frozen? ⟨b, j, none⟩ = false
theorem Bx.of_block {W W' : World} {b : Nat} {l : List Value} (h : Bx W b l) (hs : W.heap.size ≤ W'.heap.size) (hk : W'.heap[b]? = W.heap[b]?) : Bx W' b l :=
  ⟨Nat.lt_of_lt_of_le h.lt hs, fun j u hu => (World.cell?_of_block (a := ⟨b, j, none⟩) hk).trans (h.cell j u hu), fun j => (World.frozen?_of_block (a := ⟨b, j, none⟩) hk).trans (h.froz j)⟩
theorem Bx.below {W W' : World} {b : Nat} {l : List Value} (h : Bx W b l) (hb : Below W.heap.size W W') : Bx W' b l := h.of_block hb.size (hb.block b h.lt)
theorem Bx.belowB {B : Nat} {W W' : World} {b : Nat} {l : List Value} (h : Bx W b l) (hlt : b < B) (hb : Below B W W') : Bx W' b l := h.of_block hb.size (hb.block b hlt)
theorem Bx.kp {p : Nat} {W W' : World} {b : Nat} {l : List Value} (h : Bx W b l) (hne : b ≠ p) (hk : Kp p W W') : Bx W' b l := h.of_block hk.below.size (hk.keep b hne h.lt)
theorem Bx.grown {W W' : World} {b : Nat} {l : List Value} {row : Option Nat} (h : Bx W b l) (hg : W.grownBy W' row) (hne : row ≠ some b) : Bx W' b l := h.of_block hg.size (hg.block b h.lt (fun e => hne e.symm))
theorem Bx.setOther {W : World} {b : Nat} {l : List Value} (h : Bx W b l) {a : Addr} (hne : a.block ≠ b) (u : Value) : Bx (W.setCell a u) b l := h.of_block (by simp) (Below.heap_setCell _ _ _ _ (fun e => hne e.symm))
theorem Bx.setSame {W : World} {b : Nat} {l : List Value} (h : Bx W b l) (i : Nat) (u : Value) : Bx (W.setCell ⟨b, i, none⟩ u) b (l.set i u) := by
  refine ⟨by simpa using h.lt, fun j v hv => ?_, fun j => ?_⟩
  · by_cases e : i = j
    · subst e
      rw [List.getElem?_set_self' ] at hv
      cases hl : l[i]? with
      | none => rw [hl] at hv; cases hv
      | some x =>
        rw [hl] at hv
        have hv2 : u = v := by simpa using hv
        subst hv2
        have hc := h.cell i x hl
        have hlt := h.lt
        go_simp
    · rw [List.getElem?_set_ne e] at hv
      have hc := h.cell j v hv
      have hlt := h.lt
      have e2 : j ≠ i := fun e' => e e'.symm
      go_simp
  · have := h.froz j
    have hlt := h.lt
    go_simp
theorem Bx.made (W : World) (l : List Value) (t : TypeId) : Bx (W.alloc (.cells l.toArray t)) W.heap.size l := by
  refine ⟨by simp, fun j u hu => ?_, fun j => by go_simp⟩
  have h := heap_alloc_new W (.cells l.toArray t)
  simp only [World.cell?, h]
  simpa using hu
section
variable {P : Program} {ops : Array Oper} {p : Nat}
theorem wpK_append_at {o : Oper} {rest : List (Oper × Tag)} {a : Act} {w : World} {Q : Act → World → Prop} (hgd : o.guard = none) (s x : Operand) (t : TypeId)
    (ho : o.op = .call { callee := .builtin .append, args := #[s, x], argTypes := #[t, t] })
    (base : Nat) (e : TypeId) (i : TypeInfo) (z : Value) (size bytes : Nat) (ht : P.underlying t = some (.slice e)) (hi : P.info? e = some i) (hz : i.zero = some z)
    (hsize : i.size = size) (hby : i.bytes = bytes) (hzs : z.cells.size = size) (hsz : 0 < size)
    (v : Value) (n : Nat) (xs : List Value) (hs : a.eval s = v) (hown : w.ownsRow base e size v n xs)
    (ad : Addr) (m c : Nat) (news : List Value) (hx : a.eval x = .slice (some ad) m c) (hl : news.length = m * size) (hnews : ∀ j u, news[j]? = some u → w.cell? (ad.add j) = some u) (h1 : ∀ u ∈ news, u.oneCell' = true)
    (h63 : n + m ≤ maxLen) (hbytes : (n + m) * bytes ≤ 140737488355328) (hbase : base ≤ w.heap.size)
    (h : ∀ v' w', w'.ownsRow base e size v' (n + m) (xs ++ news) → w.grownBy w' v.ownBlock → (v'.ownBlock = v.ownBlock ∨ v'.ownBlock = some w.heap.size) → wpK P ops p Q rest (a.put o.dst v') w') : wpK P ops p Q ((o, .b) :: rest) a w := by
  refine wpK_b fun K hK => ?_
  have hw : Region.wanted o (yielded ops a.tmps) = true := by simp [Region.wanted, hgd]
  rw [if_pos hw]
  obtain ⟨v', w', hrun, h2, h3, _, h4⟩ := run_append_own_at (P := P) w base t o.type e i z size bytes ht hi hz hsize hby hzs hsz v n xs hown ad m c news hl hnews h1 h63 hbytes hbase
  unfold execOp
  simp only [ho, resolve, invoke, builtin, Sem.run_bind, Sem.run_pure, Result.andThen_ok, List.map_toArray, List.map_cons, List.map_nil, hs, hx, hrun]
  exact hK _ _ (h v' w' h2 h3 h4)
end
end Go.Proofs.Ytkppijcjmhkkkaa
/- Walks: two assemblies are the same; the tile at a point; the join of two assemblies that are apart. -/






namespace Go.Proofs.Ytkppijcjmhkkkaa
open Go.RowKit Go.Shelf
attribute [local go_sem] BelowBy.cell BelowBy.cell_drew stillUpon givesUpon

theorem l00MaxB_any (a b : Int) (w : World) : Calls Try.prog 85 #[.int .i64 a, .int .i64 b] w fun e w' => e = .returned (.int .i64 (max a b)) ∧ w = w' := by
  go_enter Try.func85, Try.ntmps85
  go_wp2
  · rename_i h
    go_ret
    exact ⟨ret_int (by omega), rfl⟩
  · go_ret
    exact ⟨ret_int (by omega), rfl⟩
end Go.Proofs.Ytkppijcjmhkkkaa
