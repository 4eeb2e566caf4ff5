import Derived.Test.YthieodccakphiaaGreatKP
import Derived.Test.YthieodccakphiaaGreatV3
import Derived.Test.YthieodccakphiaaGreatKH
import Derived.Test.YthieodccakphiaaGreatOrd
import Derived.Deep.Cut
import Derived.Deep.RegionLaw
import Derived.Shelf.RegionOpenPlain
import Derived.OneCell
set_option linter.unusedSimpArgs false
set_option linter.unusedVariables false
/- The reference's groups in memory; its first pair. -/



namespace Go.Proofs.YthieodccakphiaaGreat
open Go.RowKit Go.Shelf
attribute [local go_sem] BelowBy.cell BelowBy.cell_drew stillUpon givesUpon BelowBy.cell_drew2 BelowBy.cell_drew3

/-- a group: the slice of its tiles, and its item -/
structure GC where
  A : Option Addr
  q : Nat
  c : Nat
  it : Int
def gcCells : List GC → List Value
  | [] => []
  | x :: l => .slice x.A x.q x.c :: .int .i64 x.it :: gcCells l
theorem gcCells_len (l : List GC) : (gcCells l).length = l.length * 2 := by
  induction l with
  | nil => rfl
  | cons x l ih => simp only [gcCells, List.length_cons, ih]; omega
theorem gcCells_snoc (l : List GC) (x : GC) : gcCells (l ++ [x]) = gcCells l ++ [.slice x.A x.q x.c, .int .i64 x.it] := by
  induction l with
  | nil => rfl
  | cons y l ih => simp [gcCells, ih]
theorem gcCells_one (l : List GC) : ∀ u ∈ gcCells l, u.oneCell' = true := by
  induction l with
  | nil => simp [gcCells]
  | cons x l ih =>
    intro u hu
    simp only [gcCells, List.mem_cons] at hu
    rcases hu with rfl | rfl | hu
    · rfl
    · rfl
    · exact ih u hu
theorem gcCells_get : ∀ (l : List GC) (k : Nat) (x : GC), l[k]? = some x → (gcCells l)[k * 2]? = some (.slice x.A x.q x.c) ∧ (gcCells l)[k * 2 + 1]? = some (.int .i64 x.it)
  | [], k, x, h => by simp at h
  | y :: l, 0, x, h => by
    simp at h
    subst h
    simp [gcCells]
  | y :: l, k + 1, x, h => by
    have ih := gcCells_get l k x (by simpa using h)
    rw [show (k + 1) * 2 = k * 2 + 2 by omega]
    simpa [gcCells] using ih
theorem gcCells_set : ∀ (l : List GC) (k : Nat) (x : GC), k < l.length → ((gcCells l).set (k * 2) (.slice x.A x.q x.c)).set (k * 2 + 1) (.int .i64 x.it) = gcCells (l.set k x)
  | [], k, x, h => by simp at h
  | y :: l, 0, x, h => by simp [gcCells]
  | y :: l, k + 1, x, h => by
    have ih := gcCells_set l k x (by simpa using h)
    rw [show (k + 1) * 2 = k * 2 + 2 by omega, show k * 2 + 2 + 1 = (k * 2 + 1) + 2 by omega]
    simp only [gcCells, List.set_cons_succ]
    rw [ih]
theorem gcCells_erase : ∀ (l : List GC) (k : Nat), k < l.length → (gcCells l).take (k * 2) ++ (gcCells l).drop ((k + 1) * 2) = gcCells (l.eraseIdx k)
  | [], k, h => by simp at h
  | y :: l, 0, h => by simp [gcCells]
  | y :: l, k + 1, h => by
    have ih := gcCells_erase l k (by simpa using h)
    rw [show (k + 1) * 2 = k * 2 + 2 by omega, show (k + 1 + 1) * 2 = (k + 1) * 2 + 2 by omega]
    simp only [gcCells, List.eraseIdx_cons_succ, List.take_succ_cons, List.drop_succ_cons, List.cons_append]
    rw [ih]
structure GRow (w : World) (base : Nat) (v : Value) (L : List GC) (Gs : List (List Pl)) : Prop where
  own : w.ownsRow base 110 2 v Gs.length (gcCells L)
  len : L.length = Gs.length
  rows : ∀ (j : Nat) (x : GC) (G : List Pl), L[j]? = some x → Gs[j]? = some G → w.ownsRow base 108 3 (.slice x.A x.q x.c) x.q (plCells G) ∧ x.q = G.length
section
variable {w w' : World} {base : Nat} {v : Value} {L : List GC} {Gs : List (List Pl)}
theorem GRow.getL (h : GRow w base v L Gs) {j : Nat} (hj : j < Gs.length) : ∃ x, L[j]? = some x := ⟨_, List.getElem?_eq_getElem (by rw [h.len]; exact hj)⟩
theorem GRow.other {g : Nat} {T : TypeId} (h : GRow w base v L Gs) (hT : TyAt w g T) (h1 : T ≠ 110) (h2 : T ≠ 108) (hg : w.grownBy w' (some g)) : GRow w' base v L Gs := by
  have hk : ∀ {e : TypeId} {size n : Nat} {u : Value} {zs : List Value}, w.ownsRow base e size u n zs → T ≠ e → w'.ownsRow base e size u n zs := fun {e size n u zs} ho hne => ho.kept hg (by
    cases hb : u.ownBlock with
    | none => exact .inl rfl
    | some b => exact .inr fun e' => (TyAt.of_row ho hb).ne hT (fun e => hne e.symm) (by injection e'))
  refine ⟨hk h.own h1, h.len, fun j x G hx hG => ?_⟩
  obtain ⟨a, b⟩ := h.rows j x G hx hG
  exact ⟨hk a h2, b⟩
theorem GRow.below (h : GRow w base v L Gs) (hb : Below w.heap.size w w') : GRow w' base v L Gs :=
  ⟨ownsRow_below h.own hb, h.len, fun j x G hx hG => ⟨ownsRow_below (h.rows j x G hx hG).1 hb, (h.rows j x G hx hG).2⟩⟩
theorem GRow.form (h : GRow w base v L Gs) (h0 : 0 < Gs.length) : ∃ g c, v = .slice (some ⟨g, 0, none⟩) Gs.length c := by
  rcases h.own.2 with ⟨_, h1⟩ | ⟨g, c, cur, hv, _⟩
  · omega
  · exact ⟨g, c, hv⟩
theorem GRow.at {g c : Nat} (h : GRow w base (.slice (some ⟨g, 0, none⟩) Gs.length c) L Gs) {j : Nat} {x : GC} {G : List Pl} (hx : L[j]? = some x) (hG : Gs[j]? = some G) :
    w.cell? ⟨g, j * 2, none⟩ = some (.slice x.A x.q x.c) ∧ w.cell? ⟨g, j * 2 + 1, none⟩ = some (.int .i64 x.it) ∧ g < w.heap.size ∧ RdSl 3 RPl w x.A x.q G ∧ x.q = G.length ∧ AsmAt w g (j * 2) G := by
  have hj := (List.getElem?_eq_some_iff.1 hG).1
  obtain ⟨c0, c1⟩ := gcCells_get L j x hx
  have hl := (h.own.lt g rfl).2
  have h0 := (h.own.cellAt (j * 2) (by omega)).trans c0
  obtain ⟨ho, hq⟩ := h.rows j x G hx hG
  have hrd := rdPl ho hq
  exact ⟨h0, (h.own.cellAt (j * 2 + 1) (by omega)).trans c1, hl, hrd, hq, hl, _, _, _, h0, hrd⟩
end
theorem flat_len {α : Type} {Gs : List (List α)} (h : ∀ l ∈ Gs, l ≠ []) : Gs.length ≤ Gs.flatten.length := by
  induction Gs with
  | nil => simp
  | cons g m ih =>
    have h1 := ih fun l hl => h l (List.mem_cons_of_mem _ hl)
    have h2 : 0 < g.length := List.length_pos_iff.2 (h g (List.mem_cons_self ..))
    rw [List.flatten_cons, List.length_append, List.length_cons]
    omega
theorem Gps.len {gs : List Gl} {ts : List Ti} {xs : List Pl} {Gs : List (List Pl)} (h : Gps gs ts xs Gs) : Gs.length ≤ xs.length := by
  rw [← h.all.length_eq]
  refine flat_len fun l hl => ?_
  obtain ⟨k, hk⟩ := List.getElem?_of_mem hl
  exact (h.srt k l hk).2
def sPairRes (w : World) (n : Nat) (M : Nat → Nat → Int) (T : Int) (e : Ending) (w' : World) : Prop :=
  ((∃ i k : Nat, IsFirst n M T i k ∧ e = .returned (.tuple #[.int .i64 (i : Int), .int .i64 (k : Int)])) ∨ (NoPair n M T ∧ e = .returned (.tuple #[.int .i64 (-1), .int .i64 (-1)]))) ∧ Below w.heap.size w w'
theorem strI_at {p pa pc opa opc : Nat} {gs : List Gl} {ts : List Ti} {xs ms : List Pl} {s k : Int} {w : World} (h : SAt w p 0 pa opa gs ts xs) (hc : AsmAt w pc opc ms) (hV : Valid gs ts xs) (hml : ms.length ≤ 500)
    (hpt : ∀ (k : Nat) (e : Pl), ms[k]? = some e → (-60 ≤ e.x ∧ e.x ≤ 60) ∧ (-60 ≤ e.y ∧ e.y ≤ 60) ∧ ∃ t : Nat, e.t = t ∧ t < ts.length) (hj : joinE gs ts xs ms = (s, k)) :
    Calls Tryz.prog 93 #[.pointer (some ⟨p, 0, none⟩), .pointer (some ⟨pa, opa, none⟩), .pointer (some ⟨pc, opc, none⟩)] w fun e w' => e = .returned (.tuple #[.int .i64 s, .int .i64 k]) ∧ Below w.heap.size w w' := by
  have := l29Strength_any p pa pc gs ts xs ms w h hc hV hml hpt
  rw [hj] at this
  exact this
theorem str_join {gs : List Gl} {ts : List Ti} {A B : List Pl} (h : Two gs ts A B) : joinE gs ts A B = (strL gs ts A B, 0) := by
  rw [← joinE_all h.fr, sumJ_str h.V]
set_option maxRecDepth 100000 in
set_option maxHeartbeats 4000000 in
theorem l29Pair_any (base p pa : Nat) (v : Value) (L : List GC) (gs : List Gl) (ts : List Ti) (xs : List Pl) (Gs : List (List Pl)) (T : Int) (w : World) (hS : SAt w p 0 pa 0 gs ts xs) (hG : GRow w base v L Gs) (hP : Gps gs ts xs Gs) (hV : Valid gs ts xs) :
    Calls Tryz.prog 52 #[.pointer (some ⟨p, 0, none⟩), .int .i64 T, v] w (sPairRes w Gs.length (strM gs ts Gs) T) := by
  have hn : Gs.length ≤ 500 := Nat.le_trans hP.len hV.len
  obtain ⟨AG, cG, rfl⟩ := ownsRow_form hG.own
  have hSH := Lib.hid hS
  have hGH := Lib.hid hG
  have hPH := Lib.hid hP
  have hVH := Lib.hid hV
  clear hS hG hP hV
  obtain ⟨n, hnn⟩ : ∃ n, Gs.length = n := ⟨_, rfl⟩
  have hnH := Lib.hid hnn
  rw [hnn] at hn hGH
  rw [hnn]
  clear hnn
  go_enter Tryz.func52, Tryz.ntmps52
  go_wp2_with fail
  go_loopg [8] n (fun r x wr => ∃ i : Nat, i + r = n ∧ x = .int .i64 (i : Int) ∧ Hid (∀ a b, a < i → a < b → b < n → strM gs ts Gs a b < T) ∧ Hid (Below w.heap.size w wr))
  case atStart => exact ⟨0, by omega, rfl, Lib.hid (fun a b h => by omega), Lib.hid (Below.refl _ _)⟩
  case round =>
    obtain ⟨i, hi, rfl, hno, hbw⟩ := hrel
    by_cases hin : i < n
    · go_wp2_with fail
      go_loopg [9] (n - (i + 1)) (fun r x wr => ∃ k : Nat, k + r = n ∧ x = .int .i64 (k : Int) ∧ i < k ∧ Hid (∀ b, i < b → b < k → strM gs ts Gs i b < T) ∧ Hid (Below w.heap.size w wr))
      case atStart => exact ⟨i + 1, by omega, by go_num, by omega, Lib.hid (fun b h1 h2 => by omega), hbw⟩
      case round =>
        clear hbw
        obtain ⟨k, hk, rfl, hik, hnk, hbw⟩ := hrel
        by_cases hkn : k < n
        · obtain ⟨g, rfl⟩ : ∃ g, AG = some ⟨g, 0, none⟩ := by
            obtain ⟨g, c, hv⟩ := hGH.out.form (by have := hnH.out; omega)
            injection hv with hv
            exact ⟨g, hv⟩
          have hA := getD_get (Gs := Gs) (i := i) (by have := hnH.out; omega)
          have hB := getD_get (Gs := Gs) (i := k) (by have := hnH.out; omega)
          obtain ⟨xA, hxA⟩ := hGH.out.getL (j := i) (by have := hnH.out; omega)
          obtain ⟨xB, hxB⟩ := hGH.out.getL (j := k) (by have := hnH.out; omega)
          have hGw := hGH.out.below hbw.out
          rw [← hnH.out] at hGw
          obtain ⟨a0, _, lg, _, _, hAa⟩ := hGw.at hxA hA
          obtain ⟨b0, _, _, _, _, hBa⟩ := hGw.at hxB hB
          have h2 := (hPH.out.two hVH.out hik hA hB).1
          have hjE := str_join h2
          obtain ⟨s, hs⟩ : ∃ s, strM gs ts Gs i k = s := ⟨_, rfl⟩
          have hjE2 : Hid (joinE gs ts (Gs.getD i []) (Gs.getD k []) = (s, 0)) := Lib.hid (by rw [hjE, ← hs]; rfl)
          have hVA := Lib.hid h2.V
          have hptB := Lib.hid h2.pt
          have hlB : (Gs.getD k []).length ≤ 500 := (hPH.out.valid hVH.out hB).len
          have hAt := Lib.hid hAa
          have hBt := Lib.hid hBa
          have hSA := Lib.hid (show SAt wr p 0 g (i * 2) gs ts (Gs.getD i []) from ⟨(hSH.out.below hbw.out).s, hAa, by have := (hPH.out.valid hVH.out hA).len; omega, hSH.out.gm, hSH.out.tm, hSH.out.gn, hSH.out.tn⟩)
          have hsH := Lib.hid hs
          have hsz := hbw.out.size
          clear hA hB hxA hxB hGw hAa hBa h2 hjE hs a0 b0
          go_wp2_with fail
          refine wp_region_ord [(0, .q), (1, .q), (2, .q), (3, .q), (4, .q), (5, .q), (6, .q), (7, .q), (8, .q), (9, .g), (10, .q), (11, .q), (12, .q), (13, .q), (14, .q)] (by kernel_rfl) (by kernel_rfl) ?_
          simp only [pick, List.filterMap_cons, List.filterMap_nil, List.getElem?_toArray, List.getElem?_cons_zero, List.getElem?_cons_succ, Option.map_some]
          repeat (first | ((with_reducible refine wpD_p (fun K hK => ?_)); go_simp; refine hK _ ?_; clear hK K) | ((with_reducible refine wpD_q (fun K hK => ?_)); go_simp; (first | refine hK _ ?_ | (go_bits; refine hK _ ?_) | (go_bits; go_simp; refine hK _ ?_)); clear hK K))
          with_reducible refine wpD_g (fun K hK => ?_)
          go_simp
          refine (strI_at (hSA.out.below (Below.drew (Below.refl _ _))) (hBt.out.below (Below.drew (Below.refl _ _))) hVA.out hlB hptB.out hjE2.out).mono ?_
          rintro e w5 ⟨rfl, hb5⟩
          refine ⟨_, rfl, hb5, hK _ _ ?_⟩
          clear hK K
          have hbw5 : Hid (Below w.heap.size w w5) := Lib.hid (hbw.out.trans ((show Below wr.heap.size wr w5 by exact bel_).mono hsz))
          clear hb5 hbw
          repeat (first | ((with_reducible refine wpD_p (fun K hK => ?_)); go_simp; refine hK _ ?_; clear hK K) | ((with_reducible refine wpD_q (fun K hK => ?_)); go_simp; (first | refine hK _ ?_ | (go_bits; refine hK _ ?_) | (go_bits; go_simp; refine hK _ ?_)); clear hK K))
          with_reducible refine wpD_nil ?_
          by_cases hT : T ≤ s
          · go_wp2_with fail
            go_ret2
            exact ⟨.inl ⟨i, k, ⟨hik, hkn, by rw [hsH.out]; exact hT, hnk.out, fun a ha b hb hbn => hno.out a b ha hb hbn⟩, rfl⟩, hbw5.out⟩
          · have hT2 : s < T := by omega
            go_wp2_with fail
            go_roundg (n - (k + 1))
            case measure => omega
            case rel => exact ⟨k + 1, by omega, by go_num, by omega, Lib.hid (fun b h1 h2 => by
                rcases Nat.lt_succ_iff_lt_or_eq.1 h2 with h2 | rfl
                · exact hnk.out b h1 h2
                · rw [hsH.out]; exact hT2), hbw5⟩
        · obtain rfl : n = k := by omega
          go_wp2_with fail
          go_roundg (n - (i + 1))
          case measure => omega
          case rel => exact ⟨i + 1, by omega, by go_num, Lib.hid (fun a b h1 h2 h3 => by
              rcases Nat.lt_succ_iff_lt_or_eq.1 h1 with h1 | rfl
              · exact hno.out a b h1 h2 h3
              · exact hnk.out b h2 h3), hbw⟩
    · obtain rfl : n = i := by omega
      go_wp2_with fail
      go_ret2
      exact ⟨.inr ⟨fun a b h1 h2 => hno.out a b (by omega) h1 h2, rfl⟩, hbw.out⟩
end Go.Proofs.YthieodccakphiaaGreat
/- The rule for regions that draw their order, when one laying of a block may come up at any time among the others. -/

namespace Go.Proofs.YthieodccakphiaaGreat
open Go.RowKit
/-- The block may be laid between two steps: st is the block, if it has been laid. -/
def Mv (z : Obj) (st : Option Nat) (w : World) (st' : Option Nat) (W : World) : Prop := (st' = st ∧ W = w) ∨ (st = none ∧ st' = some w.heap.size ∧ W = w.alloc z)
theorem Mv.below {z : Obj} {st st' : Option Nat} {w W : World} (h : Mv z st w st' W) : Below w.heap.size w W := by
  rcases h with ⟨_, rfl⟩ | ⟨_, _, rfl⟩
  · exact Below.refl _ _
  · exact (Below.refl _ _).alloc (Nat.le_refl _) _
/-- what is known of the block -/
def FlAt (z : Obj) (lo : Nat) (st : Option Nat) (w : World) : Prop := lo ≤ w.heap.size ∧ ∀ b, st = some b → lo ≤ b ∧ w.heap[b]? = some z
theorem FlAt.none (z : Obj) (w : World) : FlAt z w.heap.size .none w := ⟨Nat.le_refl _, fun b h => by cases h⟩
theorem FlAt.mv {z : Obj} {lo : Nat} {st st' : Option Nat} {w W : World} (h : FlAt z lo st w) (hm : Mv z st w st' W) : FlAt z lo st' W := by
  rcases hm with ⟨rfl, rfl⟩ | ⟨rfl, rfl, rfl⟩
  · exact h
  · refine ⟨Nat.le_trans h.1 (by simp), fun b hb => ?_⟩
    injection hb with hb
    subst hb
    exact ⟨h.1, by show (w.heap.push z)[w.heap.size]? = some z; simp⟩
theorem FlAt.below {z : Obj} {lo : Nat} {st : Option Nat} {w W : World} (h : FlAt z lo st w) (hb : Below w.heap.size w W) : FlAt z lo st W :=
  ⟨Nat.le_trans h.1 hb.size, fun b e => ⟨(h.2 b e).1, (hb.block b ((Array.getElem?_eq_some_iff.1 (h.2 b e).2).1)).trans (h.2 b e).2⟩⟩
theorem FlAt.lt {z : Obj} {lo b : Nat} {w : World} (h : FlAt z lo (some b) w) : b < w.heap.size := (Array.getElem?_eq_some_iff.1 (h.2 b rfl).2).1
/-- the block is none of a step's own -/
def FlOut (lo hi : Nat) (st : Option Nat) : Prop := ∀ b, st = some b → b < lo ∨ hi ≤ b
theorem FlOut.of {z : Obj} {lo : Nat} {st : Option Nat} {w : World} (h : FlAt z lo st w) (hi : Nat) : FlOut w.heap.size hi st := fun b e => by subst e; exact .inl h.lt
theorem FlOut.mv {z : Obj} {lo hi : Nat} {st st' : Option Nat} {w W : World} (h : FlOut lo hi st) (hm : Mv z st w st' W) (hh : hi ≤ w.heap.size) : FlOut lo hi st' := by
  rcases hm with ⟨rfl, rfl⟩ | ⟨rfl, rfl, rfl⟩
  · exact h
  · intro b e; injection e with e; subst e; exact .inr hh
section
variable {P : Program} {ops : Array Oper}
def wpL (P : Program) (ops : Array Oper) (z : Obj) (F : Nat → Act → World → Prop) : List (Oper × Tag) → Option Nat → Act → World → Prop
  | [], st, a, w => ∀ b W, Mv z st w (some b) W → F b a W
  | (o, .q) :: rest, st, a, w =>
    if Region.wanted o (yielded ops a.tmps) then ∃ v, (∀ p : BelowBy w, stillUpon p.world v ((execOp a.eval o).run P p.world)) ∧ wpL P ops z F rest st (a.put o.dst v) w
    else wpL P ops z F rest st (a.put o.dst undef) w
  | (o, .p) :: rest, st, a, w =>
    if Region.wanted o (yielded ops a.tmps) then ∃ v, (∀ W : World, stillUpon W v ((execOp a.eval o).run P W)) ∧ wpL P ops z F rest st (a.put o.dst v) w
    else wpL P ops z F rest st (a.put o.dst undef) w
  | (o, .g) :: rest, st, a, w =>
    if Region.wanted o (yielded ops a.tmps) then ∀ st' W, Mv z st w st' W → givesUpon P (fun v w' => Below W.heap.size W w' ∧ wpL P ops z F rest st' (a.put o.dst v) w') ((execOp a.eval o).run P W)
    else wpL P ops z F rest st (a.put o.dst undef) w
  | (_, .b) :: _, _, _, _ => False
variable {z : Obj} {F : Nat → Act → World → Prop}
theorem wpL_q {o : Oper} {rest : List (Oper × Tag)} {st : Option Nat} {a : Act} {w : World}
    (h : ∀ K : Act → Prop, (∀ a, wpL P ops z F rest st a w → K a) → if Region.wanted o (yielded ops a.tmps) then ∃ v, (∀ p : BelowBy w, stillUpon p.world v ((execOp a.eval o).run P p.world)) ∧ K (a.put o.dst v) else K (a.put o.dst undef)) :
    wpL P ops z F ((o, .q) :: rest) st a w := h _ fun _ h => h
theorem wpL_p {o : Oper} {rest : List (Oper × Tag)} {st : Option Nat} {a : Act} {w : World}
    (h : ∀ K : Act → Prop, (∀ a, wpL P ops z F rest st a w → K a) → if Region.wanted o (yielded ops a.tmps) then ∃ v, (∀ W : World, stillUpon W v ((execOp a.eval o).run P W)) ∧ K (a.put o.dst v) else K (a.put o.dst undef)) :
    wpL P ops z F ((o, .p) :: rest) st a w := h _ fun _ h => h
theorem wpL_g {o : Oper} {rest : List (Oper × Tag)} {st : Option Nat} {a : Act} {w : World} (hgd : o.guard = none)
    (h : ∀ K : Option Nat → Act → World → Prop, (∀ st' a w', wpL P ops z F rest st' a w' → K st' a w') → ∀ st' W, Mv z st w st' W → givesUpon P (fun v w' => Grew W w' ∧ K st' (a.put o.dst v) w') ((execOp a.eval o).run P W)) :
    wpL P ops z F ((o, .g) :: rest) st a w := by
  have hw : Region.wanted o (yielded ops a.tmps) = true := by simp [Region.wanted, hgd]
  simp only [wpL, hw, if_true]
  exact h _ fun _ _ _ h => h
theorem wpL_nil {st : Option Nat} {a : Act} {w : World} (h : ∀ b W, Mv z st w (some b) W → F b a W) : wpL P ops z F [] st a w := h

theorem wpL_alloc : ∀ (l : List (Oper × Tag)) (a : Act) (w : World), wpL P ops z F l none a w → wpL P ops z F l (some w.heap.size) a (w.alloc z)
  | [], a, w, h => fun b W hm => h b W (by
      rcases hm with ⟨e, rfl⟩ | ⟨e, _, _⟩
      · exact .inr ⟨rfl, e, rfl⟩
      · cases e)
  | (o, .q) :: rest, a, w, h => by
    simp only [wpL] at h ⊢
    split at h <;> rename_i hw <;> simp only [hw, if_true, if_false, Bool.false_eq_true]
    · obtain ⟨v, h1, h2⟩ := h
      exact ⟨v, fun p => h1 ⟨p.world, ((Below.refl _ _).alloc (Nat.le_refl _) z).trans (p.h.mono (by simp))⟩, wpL_alloc rest _ _ h2⟩
    · exact wpL_alloc rest _ _ h
  | (o, .p) :: rest, a, w, h => by
    simp only [wpL] at h ⊢
    split at h <;> rename_i hw <;> simp only [hw, if_true, if_false, Bool.false_eq_true]
    · obtain ⟨v, h1, h2⟩ := h
      exact ⟨v, h1, wpL_alloc rest _ _ h2⟩
    · exact wpL_alloc rest _ _ h
  | (o, .g) :: rest, a, w, h => by
    simp only [wpL] at h ⊢
    split at h <;> rename_i hw <;> simp only [hw, if_true, if_false, Bool.false_eq_true]
    · intro st' W hm
      refine h st' W ?_
      rcases hm with ⟨e, rfl⟩ | ⟨e, _, _⟩
      · exact .inr ⟨rfl, e, rfl⟩
      · cases e
    · exact wpL_alloc rest _ _ h
  | (o, .b) :: rest, a, w, h => h

theorem exchL {oj : Oper} {tj : Tag} {post : List (Oper × Tag)} (hsj : ∀ cs b, oj.op ≠ .select cs b) (st : Option Nat) : ∀ (pre : List (Oper × Tag)) (a : Act) (w : World),
    (∀ x ∈ pre, (x.2 = .q ∨ x.2 = .p) ∧ x.1.apart ops oj = true ∧ ∀ cs b, x.1.op ≠ .select cs b) → wpL P ops z F (pre ++ (oj, tj) :: post) st a w →
    opStep P ops oj (fun v w' => Below w.heap.size w w' ∧ wpL P ops z F (pre ++ post) st (a.put oj.dst v) w') a w
  | [], a, w, _, h => by
    unfold opStep
    simp only [List.nil_append] at h ⊢
    cases tj <;> simp only [wpL] at h
    · split at h <;> rename_i hw <;> simp only [hw, if_true, if_false, Bool.false_eq_true]
      · obtain ⟨v, h1, h2⟩ := h
        exact givesUpon_of_still (h1 ⟨w, Below.refl _ _⟩) ⟨Below.refl _ _, h2⟩
      · exact ⟨Below.refl _ _, h⟩
    · split at h <;> rename_i hw <;> simp only [hw, if_true, if_false, Bool.false_eq_true]
      · exact h st w (.inl ⟨rfl, rfl⟩)
      · exact ⟨Below.refl _ _, h⟩
    · split at h <;> rename_i hw <;> simp only [hw, if_true, if_false, Bool.false_eq_true]
      · obtain ⟨v, h1, h2⟩ := h
        exact givesUpon_of_still (h1 w) ⟨Below.refl _ _, h2⟩
      · exact ⟨Below.refl _ _, h⟩
  | (op, t) :: pre, a, w, hp, h => by
    obtain ⟨ht, hap, hsp⟩ := hp (op, t) (by simp)
    simp only at ht hap hsp
    obtain ⟨h1, h2, h3⟩ := Oper.apart_spec hap
    have hp' : ∀ x ∈ pre, (x.2 = .q ∨ x.2 = .p) ∧ x.1.apart ops oj = true ∧ ∀ cs b, x.1.op ≠ .select cs b := fun x hx => hp x (by simp [hx])
    have key : ∀ v, (∀ w', Below w.heap.size w w' → ∀ u, wpL P ops z F (pre ++ post) st ((a.put oj.dst u).put op.dst v) w' → wpL P ops z F ((op, t) :: (pre ++ post)) st (a.put oj.dst u) w') →
        wpL P ops z F (pre ++ (oj, tj) :: post) st (a.put op.dst v) w → opStep P ops oj (fun v w' => Below w.heap.size w w' ∧ wpL P ops z F ((op, t) :: pre ++ post) st (a.put oj.dst v) w') a w := by
      intro v hk hh
      have ih := exchL hsj st pre (a.put op.dst v) w hp' hh
      unfold opStep at ih ⊢
      rw [wanted_put oj a op.dst v h1, execOp_put oj hsj a op.dst v h1] at ih
      split at ih <;> rename_i hw <;> simp only [hw, if_true, if_false, Bool.false_eq_true]
      · refine givesUpon_mono ih fun u w' hh' => ⟨hh'.1, hk w' hh'.1 u ?_⟩
        rw [← Act.put_comm a v u h2]; exact hh'.2
      · refine ⟨ih.1, hk w (Below.refl _ _) undef ?_⟩
        rw [← Act.put_comm a v undef h2]; exact ih.2
    rcases ht with rfl | rfl
    · simp only [List.cons_append, wpL] at h
      split at h
      · rename_i hw
        obtain ⟨v, hv, hrest⟩ := h
        refine key v (fun w' hbw u hr => ?_) hrest
        simp only [wpL]
        rw [wanted_put op a oj.dst u h3, if_pos hw, execOp_put op hsp a oj.dst u h3]
        exact ⟨v, fun p => hv ⟨p.world, hbw.trans (p.h.mono hbw.size)⟩, hr⟩
      · rename_i hw
        refine key undef (fun w' hbw u hr => ?_) h
        simp only [wpL]
        rw [wanted_put op a oj.dst u h3, if_neg hw]
        exact hr
    · simp only [List.cons_append, wpL] at h
      split at h
      · rename_i hw
        obtain ⟨v, hv, hrest⟩ := h
        refine key v (fun w' hbw u hr => ?_) hrest
        simp only [wpL]
        rw [wanted_put op a oj.dst u h3, if_pos hw, execOp_put op hsp a oj.dst u h3]
        exact ⟨v, hv, hr⟩
      · rename_i hw
        refine key undef (fun w' hbw u hr => ?_) h
        simp only [wpL]
        rw [wanted_put op a oj.dst u h3, if_neg hw]
        exact hr

def flPtr (b : Nat) : Value := .pointer (some ⟨b, 0, none⟩)
def realAct (fo : Oper) (st : Option Nat) (a : Act) : Act := match st with
  | none => a
  | some b => a.put fo.dst (flPtr b)

theorem wpL_toD {Q : Act → World → Prop} {fo : Oper} {pb : List (Oper × Tag)} {b : Nat} : ∀ (l : List (Oper × Tag)) (a : Act) (w : World), (∀ x ∈ l, x.2 = .p ∧ fo.apart ops x.1 = true ∧ ∀ cs b, x.1.op ≠ .select cs b) →
    wpL P ops z (fun b a w => wpD P ops Q pb (a.put fo.dst (flPtr b)) w) l (some b) a w → wpD P ops Q (l ++ pb) (a.put fo.dst (flPtr b)) w
  | [], a, w, _, h => h b w (.inl ⟨rfl, rfl⟩)
  | (o, t) :: rest, a, w, hp, h => by
    obtain ⟨ht, hap, hsp⟩ := hp (o, t) (by simp)
    simp only at ht hap hsp
    subst ht
    obtain ⟨p1, p2, p3⟩ := Oper.apart_spec hap
    have hp' : ∀ x ∈ rest, x.2 = .p ∧ fo.apart ops x.1 = true ∧ ∀ cs b, x.1.op ≠ .select cs b := fun x hx => hp x (by simp [hx])
    simp only [List.cons_append, wpD]
    simp only [wpL] at h
    rw [wanted_put o a fo.dst (flPtr b) p1, execOp_put o hsp a fo.dst (flPtr b) p1]
    split at h <;> rename_i hw <;> simp only [hw, if_true, if_false, Bool.false_eq_true]
    · obtain ⟨v, h1, h2⟩ := h
      refine ⟨v, h1, ?_⟩
      rw [Act.put_comm a (flPtr b) v p2]
      exact wpL_toD rest _ _ hp' h2
    · rw [Act.put_comm a (flPtr b) undef p2]
      exact wpL_toD rest _ _ hp' h

theorem rem_set {ord : List (Nat × Tag)} {listed : Array Bool} {i : Nat} (h : ∀ y ∈ ord, y.1 ≠ i) : rem ord (listed.setIfInBounds i true) = rem ord listed := by
  unfold rem
  apply List.filter_congr
  intro y hy
  rw [getD_set_ne true (fun e => h y hy e.symm)]

theorem fl_sound {Q : Exit → Act → World → Prop} (fi : Nat) (fo : Oper) (A B : List (Nat × Tag)) (hsel : Region.noSelect ops = true) (hcov : ∀ i, i < ops.size → ∃ x ∈ (fi, Tag.p) :: (A ++ B), x.1 = i)
    (hpw : ((fi, Tag.p) :: (A ++ B)).Pairwise (Rel2 ops)) (hsome : ∀ y ∈ (fi, Tag.p) :: (A ++ B), (ops[y.1]?).isSome = true) (htop : ∀ pre y post, (fi, Tag.p) :: (A ++ B) = pre ++ y :: post → ∀ d ∈ depsOf ops y.1, ∃ x ∈ pre, x.1 = d)
    (hfo : ops[fi]? = some fo) (hap : ∀ y ∈ A, apartB ops fi y.1 = true) (hA : ∀ y ∈ A, y.2 ≠ .b) (hanc : ∀ y ∈ B, Anc ops y.1 fi ∧ ∀ x ∈ A, x.2 ≠ .p → Anc ops y.1 x.1)
    (hrun : ∀ (a : Act) (w : World), Region.wanted fo (yielded ops a.tmps) = true ∧ (execOp a.eval fo).run P w = .ok (.value (flPtr w.heap.size)) (w.alloc z)) :
    ∀ (m : Nat) (listed : Array Bool) (st : Option Nat) (a : Act) (w : World), (rem A listed).length + (if listed.getD fi true then 0 else 1) = m → (∀ y ∈ B, listed.getD y.1 true = false) → Ideal ops listed → st.isSome = listed.getD fi true →
      wpL P ops z (fun b a w => wpD P ops (Q .normal) (pick ops B) (a.put fo.dst (flPtr b)) w) (pick ops (rem A listed)) st a w → wpAny P .any ops Q (B.length + m) listed (realAct fo st a) w := by
  have hlt : ∀ y ∈ (fi, Tag.p) :: (A ++ B), y.1 < ops.size := fun y hy => by
    have := hsome y hy
    rw [Option.isSome_iff_exists] at this
    obtain ⟨o, ho⟩ := this
    exact (Array.getElem?_eq_some_iff.1 ho).1
  obtain ⟨hpf, hpAB⟩ := List.pairwise_cons.1 hpw
  obtain ⟨hpA, hpB, hpX⟩ := List.pairwise_append.1 hpAB
  intro m
  have hdone : ∀ (m : Nat) (listed : Array Bool) (st : Option Nat) (a : Act) (w : World), (rem A listed).length + (if listed.getD fi true then 0 else 1) = m → (∀ y ∈ B, listed.getD y.1 true = false) → Ideal ops listed → st.isSome = listed.getD fi true →
      wpL P ops z (fun b a w => wpD P ops (Q .normal) (pick ops B) (a.put fo.dst (flPtr b)) w) (pick ops (rem A listed)) st a w → listed.getD fi true = true → (∀ y ∈ rem A listed, y.2 = .p) → wpAny P .any ops Q (B.length + m) listed (realAct fo st a) w := by
    intro m listed st a w hm hBl hid hst h hfl hallp
    rw [hfl] at hst hm
    obtain ⟨b, rfl⟩ := Option.isSome_iff_exists.1 hst
    have hD := wpL_toD (pick ops (rem A listed)) a w (by
      intro u hu
      obtain ⟨y, hy, hyz⟩ := List.mem_filterMap.1 hu
      have hyA := (List.mem_filter.1 hy).1
      obtain ⟨oy, hoy⟩ := Option.isSome_iff_exists.1 (hsome y (by simp [hyA]))
      rw [hoy] at hyz
      simp only [Option.map_some, Option.some.injEq] at hyz
      subst hyz
      refine ⟨hallp y hy, ?_, fun cs b => Region.noSelect_spec hsel y.1 oy cs b hoy⟩
      have := hap y hyA
      unfold apartB at this
      rw [hfo, hoy] at this
      exact this) h
    have hremB : rem ((fi, Tag.p) :: (A ++ B)) listed = rem A listed ++ B := by
      have e1 : rem ((fi, Tag.p) :: (A ++ B)) listed = rem A listed ++ rem B listed := by
        unfold rem
        rw [List.filter_cons, List.filter_append]
        simp [hfl]
      rw [e1]
      congr 1
      exact List.filter_eq_self.2 fun y hy => by rw [hBl y hy]; rfl
    exact ord_sound (P := P) (Q := Q) _ hsel hcov hpw hsome htop (B.length + m) listed _ w (by rw [hremB, List.length_append]; simp at hm; omega) hid (by
      rw [hremB]
      unfold pick at hD ⊢
      rw [List.filterMap_append]; exact hD)
  induction m with
  | zero =>
    intro listed st a w hm hBl hid hst h
    have hnil : rem A listed = [] := List.eq_nil_of_length_eq_zero (by omega)
    have hfl : listed.getD fi true = true := by
      cases hf : listed.getD fi true
      · rw [hf] at hm; simp at hm
      · rfl
    exact hdone 0 listed st a w hm hBl hid hst h hfl (fun y hy => by rw [hnil] at hy; cases hy)
  | succ m ih =>
    intro listed st a w hm hBl hid hst h
    by_cases hdn : listed.getD fi true = true ∧ ∀ y ∈ rem A listed, y.2 = .p
    · exact hdone (m + 1) listed st a w hm hBl hid hst h hdn.1 hdn.2
    refine ⟨fun h0 => ?_, fun j hj => ?_⟩
    · exfalso
      obtain ⟨y, rest, hrem⟩ : ∃ y rest, rem ((fi, Tag.p) :: (A ++ B)) listed = y :: rest := by
        cases hr : rem ((fi, Tag.p) :: (A ++ B)) listed with
        | nil =>
          exfalso
          have e : ∀ y ∈ (fi, Tag.p) :: (A ++ B), listed.getD y.1 true = true := fun y hy => by
            cases hv : listed.getD y.1 true
            · have : y ∈ rem ((fi, Tag.p) :: (A ++ B)) listed := List.mem_filter.2 ⟨hy, by rw [hv]; rfl⟩
              rw [hr] at this; cases this
            · rfl
          have e1 := e (fi, .p) (by simp)
          have e2 : rem A listed = [] := List.filter_eq_nil_iff.2 fun y hy => by rw [e y (by simp [hy])]; simp
          simp only at e1
          rw [e1, e2] at hm
          simp at hm
        | cons y rest => exact ⟨y, rest, rfl⟩
      obtain ⟨pre, post, hord, hpre⟩ := List.filter_eq_cons_iff.1 hrem
      have hy : y ∈ (fi, Tag.p) :: (A ++ B) := by rw [hord]; simp
      obtain ⟨o, ho⟩ := Option.isSome_iff_exists.1 (hsome y hy)
      have hun : listed.getD y.1 true = false := by
        have : y ∈ rem ((fi, Tag.p) :: (A ++ B)) listed := by rw [hrem]; simp
        simpa using (List.mem_filter.1 this).2
      have : y.1 ∈ Region.ready .any ops listed := ready_of ho hun fun d hd => by
        obtain ⟨x, hx, rfl⟩ := htop pre y post hord d hd
        have h1 := hpre.1 x hx
        have hxl : x.1 < listed.size := by rw [hid.size]; exact hlt x (by rw [hord]; simp [hx])
        rw [← getD_tf hxl]
        simpa using h1
      rw [h0] at this
      cases this
    · obtain ⟨h1, h2, h3⟩ := ready_deps hj
      have hset : ∀ i, (∀ d ∈ depsOf ops i, listed.getD d false = true) → Ideal ops (listed.setIfInBounds i true) := fun i h3 => by
        refine ⟨by simp [hid.size], fun y hy d hd => ?_⟩
        by_cases hxy : i = y
        · subst hxy; exact getD_set_true (h3 d hd)
        · rw [getD_set_ne false hxy] at hy
          exact getD_set_true (hid.closed y hy d hd)
      obtain ⟨x, hx, rfl⟩ := hcov j h1
      rcases List.mem_cons.1 hx with rfl | hx'
      · -- the block is laid
        have hn : st = none := by
          simp only at h2
          rw [h2] at hst
          cases st
          · rfl
          · cases hst
        subst hn
        refine wpOp_of_step hfo ?_
        unfold opStep
        obtain ⟨hw, hr⟩ := hrun (realAct fo none a) w
        rw [if_pos hw, hr]
        have hne : ∀ y ∈ A, y.1 ≠ fi := fun y hy e => (hpf y (by simp [hy])).ne e.symm
        have hneB : ∀ y ∈ B, fi ≠ y.1 := fun y hy e => (hpf y (by simp [hy])).ne e
        have hl : fi < listed.size := by rw [hid.size]; exact h1
        have := ih (listed.setIfInBounds fi true) (some w.heap.size) a (w.alloc z) (by
            rw [rem_set hne]
            simp only at h2
            rw [h2] at hm
            simp [hl]
            simpa using hm) (fun y hy => by rw [getD_set_ne true (hneB y hy)]; exact hBl y hy) (hset fi h3) (by simp [hl]) (by rw [rem_set hne]; exact wpL_alloc _ _ _ h)
        exact this
      · rcases List.mem_append.1 hx' with hxA | hxB
        · have hxr : x ∈ rem A listed := List.mem_filter.2 ⟨hxA, by simpa using h2⟩
          obtain ⟨pre, post, hsplit⟩ := List.append_of_mem hxr
          have hpwr : (rem A listed).Pairwise (Rel2 ops) := hpA.filter _
          rw [hsplit, List.pairwise_append] at hpwr
          obtain ⟨_, hpc, hcross⟩ := hpwr
          obtain ⟨oj, hoj⟩ := Option.isSome_iff_exists.1 (hsome x hx)
          have hpre : ∀ y ∈ pre, Rel2 ops y x ∧ listed.getD y.1 false = false ∧ y ∈ A := fun y hy => by
            have hyr : y ∈ rem A listed := by rw [hsplit]; simp [hy]
            obtain ⟨hyo, hyu⟩ := List.mem_filter.1 hyr
            have hyl : y.1 < listed.size := by rw [hid.size]; exact hlt y (by simp [hyo])
            exact ⟨hcross y hy x (by simp), by rw [← getD_tf hyl]; simpa using hyu, hyo⟩
          have hno : ∀ y ∈ pre, ¬ Anc ops x.1 y.1 := fun y hy ha => by
            have := hid.anc ha h3
            rw [(hpre y hy).2.1] at this
            cases this
          have hsj : ∀ cs b, oj.op ≠ .select cs b := fun cs b => Region.noSelect_spec hsel x.1 oj cs b hoj
          have hstep := exchL (P := P) (ops := ops) (z := z) (F := fun b a w => wpD P ops (Q .normal) (pick ops B) (a.put fo.dst (flPtr b)) w) (oj := oj) (tj := x.2) (post := pick ops post) hsj st (pick ops pre) a w
            (by
              intro u hu
              obtain ⟨y, hy, hyz⟩ := List.mem_filterMap.1 hu
              obtain ⟨oy, hoy⟩ := Option.isSome_iff_exists.1 (hsome y (by simp [(hpre y hy).2.2]))
              rw [hoy] at hyz
              simp only [Option.map_some, Option.some.injEq] at hyz
              subst hyz
              refine ⟨?_, ?_, fun cs b => Region.noSelect_spec hsel y.1 oy cs b hoy⟩
              · cases hq : y.2 with
                | q => exact Or.inl rfl
                | p => exact Or.inr rfl
                | g => exact absurd ((hpre y hy).1.anc (by rw [hq]; rfl)) (hno y hy)
                | b => exact absurd ((hpre y hy).1.anc (by rw [hq]; rfl)) (hno y hy)
              · rcases (hpre y hy).1.apart with hd | hd
                · exact absurd (.one hd) (hno y hy)
                · unfold apartB at hd
                  rw [hoy, hoj] at hd
                  exact hd)
            (by
              have e : pick ops (rem A listed) = pick ops pre ++ (oj, x.2) :: pick ops post := by
                rw [hsplit]; unfold pick; simp [List.filterMap_append, hoj]
              rw [← e]; exact h)
          have hfx : fi ≠ x.1 := fun e => (hpf x hx').ne e
          have hrem' : rem A (listed.setIfInBounds x.1 true) = pre ++ post := by
            have hx1 : x.1 < listed.size := by rw [hid.size]; exact h1
            have e1 : rem A (listed.setIfInBounds x.1 true) = (rem A listed).filter fun y => y.1 != x.1 := by
              unfold rem
              rw [List.filter_filter]
              apply List.filter_congr
              intro y hy
              by_cases hyx : x.1 = y.1
              · rw [← hyx]; simp [hx1]
              · have hne : (y.1 != x.1) = true := by simpa using fun h => hyx h.symm
                rw [getD_set_ne true hyx, hne]; simp
            rw [e1, hsplit, List.filter_append, List.filter_cons]
            have hp : pre.filter (fun y => y.1 != x.1) = pre := List.filter_eq_self.2 fun y hy => by simpa using (hpre y hy).1.ne
            have hq : post.filter (fun y => y.1 != x.1) = post := List.filter_eq_self.2 fun y hy => by
              have := (List.pairwise_cons.1 hpc).1 y hy
              simpa using fun e => this.ne e.symm
            rw [hp, hq]; simp
          have hlen : (pre ++ post).length + 1 = (rem A listed).length := by rw [hsplit]; simp; omega
          have e2 : ∀ v w', wpL P ops z (fun b a w => wpD P ops (Q .normal) (pick ops B) (a.put fo.dst (flPtr b)) w) (pick ops pre ++ pick ops post) st (a.put oj.dst v) w' →
              wpAny P .any ops Q (B.length + m) (listed.setIfInBounds x.1 true) (realAct fo st (a.put oj.dst v)) w' := fun v w' hh =>
            ih _ st _ _ (by rw [hrem', getD_set_ne true (fun e => hfx e.symm)]; omega) (fun y hy => by rw [getD_set_ne true (hpX x hxA y hy).ne]; exact hBl y hy) (hset x.1 h3) (by rw [getD_set_ne true (fun e => hfx e.symm)]; exact hst)
              (by rw [hrem']; unfold pick at hh ⊢; rw [List.filterMap_append]; exact hh)
          have hapx := hap x hxA
          unfold apartB at hapx
          rw [hfo, hoj] at hapx
          obtain ⟨p1, p2, p3⟩ := Oper.apart_spec hapx
          refine wpOp_of_step hoj ?_
          cases st with
          | none =>
            show opStep P ops oj (fun v w' => wpAny P .any ops Q (B.length + m) (listed.setIfInBounds x.1 true) (a.put oj.dst v) w') a w
            unfold opStep at hstep ⊢
            split at hstep <;> rename_i hw <;> simp only [hw, if_true, if_false, Bool.false_eq_true]
            · exact givesUpon_mono hstep fun v w' hh => e2 v w' hh.2
            · exact e2 _ _ hstep.2
          | some b =>
            show opStep P ops oj (fun v w' => wpAny P .any ops Q (B.length + m) (listed.setIfInBounds x.1 true) ((a.put fo.dst (flPtr b)).put oj.dst v) w') (a.put fo.dst (flPtr b)) w
            unfold opStep at hstep ⊢
            rw [wanted_put oj a fo.dst (flPtr b) p1, execOp_put oj hsj a fo.dst (flPtr b) p1]
            split at hstep <;> rename_i hw <;> simp only [hw, if_true, if_false, Bool.false_eq_true]
            · exact givesUpon_mono hstep fun v w' hh => by rw [Act.put_comm a (flPtr b) v p2]; exact e2 v w' hh.2
            · rw [Act.put_comm a (flPtr b) undef p2]; exact e2 _ _ hstep.2
        · exfalso
          obtain ⟨ha1, ha2⟩ := hanc x hxB
          have hfl := hid.anc ha1 h3
          have hf1 : listed.getD fi true = true := by
            rw [getD_tf (by rw [hid.size]; exact hlt (fi, .p) (by simp))]; exact hfl
          refine hdn ⟨hf1, fun y hy => ?_⟩
          obtain ⟨hyA, hyl⟩ := List.mem_filter.1 hy
          cases hq : y.2 with
          | p => rfl
          | _ =>
            have := hid.anc (ha2 y hyA (by rw [hq]; decide)) h3
            rw [getD_tf (by rw [hid.size]; exact hlt y (by simp [hyA])), this] at hyl
            cases hyl

def toQ (l : List (Nat × Tag)) (t : Tag) : List (Nat × Tag) := l.map fun x => (x.1, if x.2 = .p then .p else t)
def toB (l : List (Nat × Tag)) : List (Nat × Tag) := l.map fun x => (x.1, .b)
/-- **The rule.** -/
theorem wp_region_fl {id : Nat} {Q : Exit → Act → World → Prop} {a : Act} {w : World} {l : List Oper} (fi : Nat) (A B : List (Nat × Tag)) (fo : Oper) (z : Obj) (hm : P.follows .mixedOrders = true)
    (hB : ordB l.toArray ((fi, .p) :: (A ++ B)) = true) (hB2 : ordB l.toArray ((fi, .q) :: (toQ A .q ++ toB B)) = true) (hA : (A.all fun x => x.2 != .b && apartB l.toArray fi x.1) = true) (hfo : l.toArray[fi]? = some fo)
    (hrun : ∀ (a : Act) (w : World), Region.wanted fo (yielded l.toArray a.tmps) = true ∧ (execOp a.eval fo).run P w = .ok (.value (flPtr w.heap.size)) (w.alloc z))
    (h : wpL P l.toArray z (fun b a w => wpD P l.toArray (Q .normal) (pick l.toArray B) (a.put fo.dst (flPtr b)) w) (pick l.toArray A) none a w.drew) : (Code.region id l.toArray true).wp P Q a w := by
  have hanc : ∀ y ∈ B, Anc l.toArray y.1 fi ∧ ∀ x ∈ A, x.2 ≠ .p → Anc l.toArray y.1 x.1 := by
    simp only [ordB, Bool.and_eq_true, beq_iff_eq] at hB2
    obtain ⟨hpw, _, _, _⟩ := ordFrom_spec _ [] hB2.2 (fun _ h => by cases h)
    obtain ⟨hpf, hpAB⟩ := List.pairwise_cons.1 hpw
    obtain ⟨_, _, hpX⟩ := List.pairwise_append.1 hpAB
    intro y hy
    have hyB : (y.1, Tag.b) ∈ toB B := List.mem_map.2 ⟨y, hy, rfl⟩
    exact ⟨(hpf (y.1, .b) (by simp [hyB])).anc rfl, fun x hx hxp => (hpX (x.1, .q) (List.mem_map.2 ⟨x, hx, by rw [if_neg hxp]⟩) (y.1, .b) hyB).anc rfl⟩
  simp only [ordB, Bool.and_eq_true, beq_iff_eq] at hB
  obtain ⟨⟨⟨hsel, hlen⟩, hcov⟩, hfrom⟩ := hB
  obtain ⟨hpw, _, hsome, htop⟩ := ordFrom_spec _ [] hfrom (fun _ h => by cases h)
  refine wp_region_any hm ?_
  have hun : ∀ y ∈ (fi, Tag.p) :: (A ++ B), (Array.replicate l.toArray.size false).getD y.1 true = false := fun y hy => by
    obtain ⟨o, ho⟩ := Option.isSome_iff_exists.1 (hsome y hy)
    have := (Array.getElem?_eq_some_iff.1 ho).1
    simp at this
    simp [this]
  have hremA : rem A (Array.replicate l.toArray.size false) = A := List.filter_eq_self.2 fun y hy => by rw [hun y (by simp [hy])]; rfl
  have hf0 := hun (fi, .p) (by simp)
  simp only at hf0
  have hs := fl_sound (P := P) (Q := Q) (z := z) fi fo A B hsel (fun i hi => by
    have := List.all_eq_true.1 hcov i (List.mem_range.2 hi)
    obtain ⟨x, hx, hxi⟩ := List.any_eq_true.1 this
    exact ⟨x, hx, by simpa using hxi⟩) hpw hsome (fun pre y post he d hd => by
      rcases htop pre y post he d hd with ⟨x, hx, _⟩ | hx
      · cases hx
      · exact hx) hfo (fun y hy => by have := List.all_eq_true.1 hA y hy; simp only [Bool.and_eq_true] at this; exact this.2) (fun y hy => by have := List.all_eq_true.1 hA y hy; simp only [Bool.and_eq_true, bne_iff_ne] at this; exact this.1) hanc hrun
    (A.length + 1) (Array.replicate l.toArray.size false) none a w.drew (by rw [hremA, hf0]; simp) (fun y hy => hun y (by simp [hy]))
      ⟨by simp, fun y hy => by
        rcases Nat.lt_or_ge y l.toArray.size with h | h
        · simp at h; simp [h] at hy
        · simp at h; simp [h] at hy⟩ (by rw [hf0]; rfl) (by rw [hremA]; exact h)
  have hn : B.length + (A.length + 1) = l.toArray.size := by
    rw [← hlen]; simp; omega
  rw [hn] at hs
  exact hs
end
end Go.Proofs.YthieodccakphiaaGreat
/- Walks: the reference's groups put together; IsProducedByHands of the reference. -/





namespace Go.Proofs.YthieodccakphiaaGreat
open Go.RowKit Go.Shelf
attribute [local go_sem] BelowBy.cell BelowBy.cell_drew stillUpon givesUpon BelowBy.cell_drew2 BelowBy.cell_drew3

theorem sTempI_at {t : Int} {v : Bool} {w : World} (h : inB t 1 16 = v) : Calls Tryz.prog 51 #[.int .i64 t] w fun e w' => e = .returned (.bool v) ∧ w = w' := by
  subst h
  go_enter Tryz.func51, Tryz.ntmps51
  go_wp2_with (go_at_call 89; refine (l00In_any _ _ _ _).mono ?_; rintro e _ ⟨rfl, rfl⟩)
  go_ret
  exact ⟨ret_bool rfl, rfl⟩
def oneR (gs : List Gl) (ts : List Ti) (xs : List Pl) (t : Int) : Int := if validAsmB gs ts xs = false then 1 else if inB t 1 16 = false then 2 else if xs.length = 0 then 3 else 0
theorem validAsm_eqI (gs : List Gl) (ts : List Ti) (xs : List Pl) : validAsmB gs ts xs = (validSetB gs ts && okA ts xs) := by
  unfold validAsmB okA
  cases validSetB gs ts <;> simp
set_option maxRecDepth 100000 in
set_option maxHeartbeats 2000000 in
theorem l29One_any (p pa : Nat) (gs : List Gl) (ts : List Ti) (xs : List Pl) (t : Int) (w : World) (h : SAt w p 0 pa 0 gs ts xs) :
    Calls Tryz.prog 25 #[.pointer (some ⟨p, 0, none⟩), .int .i64 t, .pointer (some ⟨pa, 0, none⟩)] w fun e w' => e = .returned (.int .i64 (oneR gs ts xs t)) ∧ Below w.heap.size w w' := by
  have hH := Lib.hid h
  have htm := h.tm
  have hgm := h.gm
  have hq := h.q
  obtain ⟨hlt, A, n, c, ca, rda⟩ := id h.a
  have hln := rda.len
  clear h rda
  cases hs : validSetB gs ts
  · have hR := Lib.hid (show oneR gs ts xs t = 1 by unfold oneR; rw [if_pos (by rw [validAsm_eqI, hs]; rfl)])
    have hsH := Lib.hid hs
    clear hs
    go_enter Tryz.func25, Tryz.ntmps25
    go_wp2_with fail
    refine (l02Ok_at (hH.out.s.below (by exact bel_)) (by omega) (by omega) hH.out.gn hH.out.tn hsH.out).mono ?_
    rintro e w1 ⟨rfl, hb1⟩
    go_wp2
    go_ret
    exact ⟨ret_int hR.out.symm, by exact bel_⟩
  · cases ha : okA ts xs
    · have hR := Lib.hid (show oneR gs ts xs t = 1 by unfold oneR; rw [if_pos (by rw [validAsm_eqI, hs, ha]; rfl)])
      have hsH := Lib.hid hs
      have haH := Lib.hid ha
      clear hs ha
      go_enter Tryz.func25, Tryz.ntmps25
      go_wp2_with fail
      refine (l02Ok_at (hH.out.s.below (by exact bel_)) (by omega) (by omega) hH.out.gn hH.out.tn hsH.out).mono ?_
      rintro e w1 ⟨rfl, hb1⟩
      go_wp2_with fail
      refine (l03Ok_at (hH.out.s.below (by exact bel_)) (hH.out.a.below (by exact bel_)) hq (by omega) haH.out).mono ?_
      rintro e w2 ⟨rfl, hb2⟩
      go_wp2
      go_ret
      exact ⟨ret_int hR.out.symm, by exact bel_⟩
    · have hv : validAsmB gs ts xs = true := by rw [validAsm_eqI, hs, ha]; rfl
      have hsH := Lib.hid hs
      have haH := Lib.hid ha
      clear hs ha
      cases ht : inB t 1 16
      · have hR := Lib.hid (show oneR gs ts xs t = 2 by unfold oneR; rw [if_neg (by rw [hv]; decide), if_pos ht])
        have htH := Lib.hid ht
        clear ht hv
        go_enter Tryz.func25, Tryz.ntmps25
        go_wp2_with fail
        refine (l02Ok_at (hH.out.s.below (by exact bel_)) (by omega) (by omega) hH.out.gn hH.out.tn hsH.out).mono ?_
        rintro e w1 ⟨rfl, hb1⟩
        go_wp2_with fail
        refine (l03Ok_at (hH.out.s.below (by exact bel_)) (hH.out.a.below (by exact bel_)) hq (by omega) haH.out).mono ?_
        rintro e w2 ⟨rfl, hb2⟩
        go_wp2_with (go_at_call 51; refine (sTempI_at htH.out).mono ?_; rintro e _ ⟨rfl, rfl⟩)
        go_ret
        exact ⟨ret_int hR.out.symm, by exact bel_⟩
      · by_cases h0 : n = 0
        all_goals
          have hR := Lib.hid (show oneR gs ts xs t = (if n = 0 then 3 else 0) by unfold oneR; rw [if_neg (by rw [hv]; decide), if_neg (by rw [ht]; decide), hln])
          have htH := Lib.hid ht
          have h0H := Lib.hid h0
          clear ht hv
          go_enter Tryz.func25, Tryz.ntmps25
          go_wp2_with fail
          refine (l02Ok_at (hH.out.s.below (by exact bel_)) (by omega) (by omega) hH.out.gn hH.out.tn hsH.out).mono ?_
          rintro e w1 ⟨rfl, hb1⟩
          go_wp2_with fail
          refine (l03Ok_at (hH.out.s.below (by exact bel_)) (hH.out.a.below (by exact bel_)) hq (by omega) haH.out).mono ?_
          rintro e w2 ⟨rfl, hb2⟩
          have k0 := (hb2.cell (p := ⟨pa, 0, none⟩) (Nat.lt_of_lt_of_le hlt hb1.size)).trans ((hb1.cell (p := ⟨pa, 0, none⟩) hlt).trans ca)
          have k1 : pa < w2.heap.size := Nat.lt_of_lt_of_le hlt (Nat.le_trans hb1.size hb2.size)
          have hb20 := Lib.hid (show Below w.heap.size w w2 by exact bel_)
          clear hb1 hb2 ca
        · subst h0
          go_wp2_with (go_at_call 51; refine (sTempI_at htH.out).mono ?_; rintro e _ ⟨rfl, rfl⟩)
          go_ret
          exact ⟨ret_int (by rw [hR.out]; rfl), hb20.out⟩
        · have h0b : ((n : Int) == 0) = false := by simp; omega
          have h0c : ¬ (n : Int) = 0 := by omega
          go_wp2_with (go_at_call 51; refine (sTempI_at htH.out).mono ?_; rintro e _ ⟨rfl, rfl⟩)
          go_ret
          exact ⟨ret_int (by rw [hR.out, if_neg h0H.out]), hb20.out⟩
/-- one more group -/
theorem GRow.push {w w' : World} {base : Nat} {v v' : Value} {L : List GC} {Gs : List (List Pl)} {x : GC} {G : List Pl} (h : GRow w base v L Gs) (hx : w.ownsRow base 108 3 (.slice x.A x.q x.c) x.q (plCells G)) (hq : x.q = G.length)
    (ho : w'.ownsRow base 110 2 v' (Gs.length + 1) (gcCells L ++ [.slice x.A x.q x.c, .int .i64 x.it])) (hg : w.grownBy w' v.ownBlock) : GRow w' base v' (L ++ [x]) (Gs ++ [G]) := by
  have hk : ∀ {u : Value} {n : Nat} {zs : List Value}, w.ownsRow base 108 3 u n zs → w'.ownsRow base 108 3 u n zs := fun {u n zs} hu => hu.kept hg (by
    cases hb : u.ownBlock with
    | none => exact .inl rfl
    | some b => exact .inr fun e => (TyAt.of_row hu hb).ne (TyAt.of_row h.own e.symm) (by decide) rfl)
  refine ⟨by rw [gcCells_snoc, List.length_append]; exact ho, by simp [h.len], fun j y H hy hH => ?_⟩
  rcases Nat.lt_or_ge j L.length with hlt | hge
  · rw [List.getElem?_append_left hlt] at hy
    rw [List.getElem?_append_left (by rw [← h.len]; exact hlt)] at hH
    obtain ⟨a, b⟩ := h.rows j y H hy hH
    exact ⟨hk a, b⟩
  · have hlt := (List.getElem?_eq_some_iff.1 hy).1
    simp at hlt
    obtain rfl : j = L.length := by omega
    simp at hy
    subst hy
    rw [h.len] at hH
    simp at hH
    subst hH
    exact ⟨hk hx, hq⟩
/-- a group is stored in place of another -/
theorem GRow.set {w : World} {base g c i : Nat} {L : List GC} {Gs : List (List Pl)} {x : GC} {G : List Pl} (h : GRow w base (.slice (some ⟨g, 0, none⟩) Gs.length c) L Gs) (hi : i < Gs.length) (hx : w.ownsRow base 108 3 (.slice x.A x.q x.c) x.q (plCells G)) (hq : x.q = G.length) :
    GRow ((w.setCell ⟨g, i * 2, none⟩ (.slice x.A x.q x.c)).setCell ⟨g, i * 2 + 1, none⟩ (.int .i64 x.it)) base (.slice (some ⟨g, 0, none⟩) (Gs.set i G).length c) (L.set i x) (Gs.set i G) := by
  have s1 := h.own.stored (i * 2) (.slice x.A x.q x.c)
  have s2 := s1.1.stored (i * 2 + 1) (.int .i64 x.it)
  have hg := grown_two s1.2 s2.2
  have hk : ∀ {u : Value} {n : Nat} {zs : List Value}, w.ownsRow base 108 3 u n zs → ((w.setCell ⟨g, i * 2, none⟩ (.slice x.A x.q x.c)).setCell ⟨g, i * 2 + 1, none⟩ (.int .i64 x.it)).ownsRow base 108 3 u n zs := fun {u n zs} hu => hu.kept hg (by
    cases hb : u.ownBlock with
    | none => exact .inl rfl
    | some b => exact .inr fun e => (TyAt.of_row hu hb).ne (TyAt.of_row h.own rfl) (by decide) (by injection e))
  have ho := s2.1
  rw [gcCells_set L i x (by rw [h.len]; exact hi)] at ho
  refine ⟨by rw [List.length_set]; exact ho, by simp [h.len], fun j y H hy hH => ?_⟩
  by_cases e : i = j
  · subst e
    rw [List.getElem?_set_self (by rw [h.len]; exact hi)] at hy
    rw [List.getElem?_set_self hi] at hH
    obtain rfl := Option.some.inj hy
    obtain rfl := Option.some.inj hH
    exact ⟨hk hx, hq⟩
  · rw [List.getElem?_set_ne e] at hy hH
    obtain ⟨a, b⟩ := h.rows j y H hy hH
    exact ⟨hk a, b⟩
/-- a group is struck out -/
theorem GRow.cut {w w' : World} {base g c k n : Nat} {L : List GC} {Gs : List (List Pl)} (h : GRow w base (.slice (some ⟨g, 0, none⟩) n c) L Gs) (hn : Gs.length = n) (hk : k < Gs.length) (hg : w.grownBy w' (some g))
    (ho : w'.ownsRow base 110 2 (.slice (some ⟨g, 0, none⟩) (n - 1) c) (n - 1) ((gcCells L).take (k * 2) ++ (gcCells L).drop ((k + 1) * 2))) : GRow w' base (.slice (some ⟨g, 0, none⟩) (n - 1) c) (L.eraseIdx k) (Gs.eraseIdx k) := by
  have hl : (Gs.eraseIdx k).length = n - 1 := by rw [List.length_eraseIdx_of_lt hk, hn]
  have hat : ∀ {α : Type} {l : List α} {j : Nat} {u : α}, (l.eraseIdx k)[j]? = some u → l[skipN k j]? = some u := fun {α l j u} hj => by
    rw [List.getElem?_eraseIdx] at hj
    unfold skipN
    split at hj <;> rename_i hc
    · rw [if_pos hc]; exact hj
    · rw [if_neg hc]; exact hj
  rw [gcCells_erase L k (by rw [h.len]; exact hk)] at ho
  refine ⟨by rw [hl]; exact ho, by rw [hl, List.length_eraseIdx_of_lt (by rw [h.len]; exact hk), h.len, hn], fun j y H hy hH => ?_⟩
  obtain ⟨a, b⟩ := h.rows _ y H (hat hy) (hat hH)
  refine ⟨a.kept hg ?_, b⟩
  cases hb : (Value.slice y.A y.q y.c).ownBlock with
  | none => exact .inl rfl
  | some b => exact .inr fun e => (TyAt.of_row a hb).ne (TyAt.of_row h.own rfl) (by decide) (by injection e)
/-- an element struck out by an append of the tail onto the head -/
theorem cutAt_of {w : World} {base g n cap k S : Nat} {T : TypeId} {xs : List Value} (h : w.ownsRow base T S (.slice (some ⟨g, 0, none⟩) n cap) n xs) (hk : k < n) :
    (w.drew.setCells g (k * S) (xs.drop ((k + 1) * S))).ownsRow base T S (.slice (some ⟨g, 0, none⟩) (n - 1) cap) (n - 1) (xs.take (k * S) ++ xs.drop ((k + 1) * S)) ∧ w.grownBy (w.drew.setCells g (k * S) (xs.drop ((k + 1) * S))) (some g) := by
  have hd : w.drew.ownsRow base T S (.slice (some ⟨g, 0, none⟩) n cap) n xs := h.kept (grown_drew w none) (Classical.em _)
  obtain ⟨f, hr, hx, hb, hnc, hm, hl⟩ := rowIs_of_owns hd
  have h1 := rowIs_setCells (xs.drop ((k + 1) * S)) (k * S) _ _ hr
  have h3 := owns_of_rowIs (m := n - 1) h1 hb (by omega) hm
  have hmul : (k + 1) * S = k * S + S := Nat.succ_mul k S
  have hN : (n - 1) * S = n * S - S := by rw [Nat.sub_mul, Nat.one_mul]
  have hle : k * S + S ≤ n * S := by rw [← hmul]; exact Nat.mul_le_mul_right _ hk
  have hc := erased_cells (zs := []) hx hl hle
  rw [hN, hmul] at h3
  rw [hmul]
  refine ⟨?_, grown_two (grown_drew w _) (setCells_grown g _ _ _)⟩
  rw [← hc]
  have : (List.range (n * S - S)).map (fun j => if n * S - S ≤ j ∧ j < n * S - S + ([] : List Value).length then ([] : List Value)[j - (n * S - S)]?.getD default else if k * S ≤ j ∧ j < k * S + (xs.drop (k * S + S)).length then (xs.drop (k * S + S))[j - k * S]?.getD default else f j) = (List.range (n * S - S)).map (fun j => if k * S ≤ j ∧ j < k * S + (xs.drop (k * S + S)).length then (xs.drop (k * S + S))[j - k * S]?.getD default else f j) := by
    apply List.map_congr_left
    intro j hj
    have hj2 := List.mem_range.1 hj
    rw [if_neg (fun h => by omega)]
  rw [this]
  exact h3
theorem infoGrp : (Tryz.prog.info? 110).map (fun i => (i.zero, i.size, i.bytes)) = some (some (.agg #[.slice none 0 0, .int .i64 0]), 2, 32) := by kernel_rfl
theorem infoMergeS : (Tryz.prog.info? 114).map (fun i => (i.zero, i.size, i.bytes)) = some (some (.agg #[.int .i64 0, .int .i64 0, .int .i64 0, .int .i64 0]), 4, 32) := by kernel_rfl
end Go.Proofs.YthieodccakphiaaGreat
/- Rows of one type lie in no block of another type. -/


namespace Go.Proofs.YthieodccakphiaaGreat
theorem own_ne_row {w : World} {base : Nat} {e T : TypeId} {size : Nat} {v : Value} {n : Nat} {xs : List Value} {g N : Nat} {f : Nat → Value} (h : w.ownsRow base e size v n xs) (hr : w.rowIs g T N f) (hne : e ≠ T) : v.ownBlock ≠ some g := by
  rcases h.2 with ⟨rfl, _⟩ | ⟨g', cap, cur, rfl, _, hh, _⟩
  · intro hc
    cases hc
  · intro hc
    have hg : some g' = some g := hc
    injection hg with hg
    subst hg
    obtain ⟨cur', hh', _⟩ := hr
    have := Option.some.inj (hh.symm.trans hh')
    injection this with _ h3
    exact hne h3
theorem mkRow_hi {w : World} {base size n c hi : Nat} {e : TypeId} {A : Option Addr} {xs : List Value} (h : w.ownsRow base e size (.slice A n c) n xs) (hh : ∀ g, (Value.slice A n c).ownBlock = some g → g < hi) : MkRow e size base hi w A n := fun hn => by
  obtain ⟨g, N, f, h1, h2, _, h4, h5⟩ := mkRow_of_owns h hn
  exact ⟨g, N, f, h1, h2, hh g (by subst h1; rfl), h4, h5⟩
end Go.Proofs.YthieodccakphiaaGreat
/- Walks: the reference's groups put together. -/


namespace Go.Proofs.YthieodccakphiaaGreat
open Go.RowKit Go.Shelf
attribute [local go_sem] BelowBy.cell BelowBy.cell_drew stillUpon givesUpon BelowBy.cell_drew2 BelowBy.cell_drew3

theorem GRow.otherRow {w w' : World} {base base' size c : Nat} {e : TypeId} {v vm : Value} {L : List GC} {Gs : List (List Pl)} {xo : List Value} (h : GRow w base v L Gs) (ho : w.ownsRow base' e size vm c xo) (h1 : e ≠ 110) (h2 : e ≠ 108) (hg : w.grownBy w' vm.ownBlock) : GRow w' base v L Gs := by
  cases hb : vm.ownBlock with
  | none =>
    rw [hb] at hg
    refine ⟨h.own.kept hg (Classical.em _), h.len, fun j x G hx hG => ?_⟩
    obtain ⟨a, b⟩ := h.rows j x G hx hG
    exact ⟨a.kept hg (Classical.em _), b⟩
  | some g =>
    rw [hb] at hg
    exact h.other (TyAt.of_row ho hb) h1 h2 hg
theorem GRow.base {w : World} {base base' : Nat} {v : Value} {L : List GC} {Gs : List (List Pl)} (h : GRow w base v L Gs) (hb : base' ≤ base) : GRow w base' v L Gs :=
  ⟨ownsRow_baseV h.own hb, h.len, fun j x G hx hG => ⟨ownsRow_baseV (h.rows j x G hx hG).1 hb, (h.rows j x G hx hG).2⟩⟩
theorem cell_two_newI (w : World) (a b : Value) (t : TypeId) : ∀ j u, [a, b][j]? = some u → (w.alloc (Obj.cells #[a, b] t)).cell? ((⟨w.heap.size, 0, none⟩ : Addr).add j) = some u := by
  intro j u hj
  match j, hj with
  | 0, hj => simp at hj; subst hj; simp [Addr.add]
  | 1, hj => simp at hj; subst hj; simp [Addr.add]
  | j + 2, hj => simp at hj
theorem cell_four_newS (w : World) (a b c d : Value) (t : TypeId) : ∀ j u, [a, b, c, d][j]? = some u → (w.alloc (Obj.cells #[a, b, c, d] t)).cell? ((⟨w.heap.size, 0, none⟩ : Addr).add j) = some u := by
  intro j u hj
  match j, hj with
  | 0, hj => simp at hj; subst hj; simp [Addr.add]
  | 1, hj => simp at hj; subst hj; simp [Addr.add]
  | 2, hj => simp at hj; subst hj; simp [Addr.add]
  | 3, hj => simp at hj; subst hj; simp [Addr.add]
  | j + 4, hj => simp at hj
def GsRes (w : World) (n : Nat) (e : Ending) (w' : World) : Prop := ∃ A c vm, e = .returned (.tuple #[.slice A n c, vm]) ∧ Below w.heap.size w w'
set_option maxRecDepth 100000 in
set_option maxHeartbeats 8000000 in
theorem l29Groups_any (p pa : Nat) (gs : List Gl) (ts : List Ti) (xs : List Pl) (T : Int) (w : World) (hS : SAt w p 0 pa 0 gs ts xs) (hV : Valid gs ts xs) :
    Calls Tryz.prog 26 #[.pointer (some ⟨p, 0, none⟩), .int .i64 T, .pointer (some ⟨pa, 0, none⟩)] w (GsRes w (leftE gs ts xs T)) := by
  obtain ⟨i0, hi, hz0, hz1, hz2⟩ := info_parts infoGrp
  obtain ⟨i1, hi', hz0', hz1', hz2'⟩ := info_parts infoMergeS
  have hL0 : leftE gs ts xs T = leftM T (xs.map fun e => [e]).length (strM gs ts (xs.map fun e => [e])) := left_start hV T
  obtain ⟨hlt, A, q, ca, c1, rda⟩ := id hS.a
  obtain ⟨hltp, _, B, m, cb, c2, rdb⟩ := id hS.s
  have hlq := rda.len
  have hlm := rdb.len
  have hq5 := hV.len
  have hm5 := hV.tl
  have hq : q ≤ 500 := by omega
  have hm : m ≤ 160 := by omega
  have hSH := Lib.hid hS
  have hVH := Lib.hid hV
  have hlqH := Lib.hid hlq
  have hL0H := Lib.hid hL0
  have rdaH := Lib.hid rda
  have c1H := Lib.hid c1
  have c2H := Lib.hid c2
  clear hS hV hlq hq5 hL0 hlm hm5 rda rdb c1 c2
  go_enter Tryz.func26, Tryz.ntmps26
  go_wp2_with fail
  go_loopg [9, 8] q (fun g x y wr => ∃ (k : Nat) (v : Value) (L : List GC), k + g = q ∧ x = .int .i64 (k : Int) ∧ v = y ∧ Hid (GRow wr w.heap.size v L ((xs.take k).map fun e => [e])) ∧ Hid (Below w.heap.size w wr))
  case atStart => exact ⟨0, _, [], by omega, rfl, rfl, Lib.hid ⟨World.ownsRow_made _ _ _ (Nat.le_refl _) (by decide) rfl, rfl, fun j x G hx => by simp at hx⟩, Lib.hid (bl_al (bl_refl _) _)⟩
  case round =>
    obtain ⟨k, v, L, hk, rfl, rfl, hG, hbw⟩ := hrel
    have a1 := (hbw.out.cell (p := ⟨pa, 0, none⟩) hlt).trans c1H.out
    have l1 : pa < wr.heap.size := Nat.lt_of_lt_of_le hlt hbw.out.size
    have hsw := hbw.out.size
    by_cases hkq : k < q
    · obtain ⟨e, he⟩ : ∃ e, xs[k]? = some e := ⟨_, List.getElem?_eq_getElem (by have := hlqH.out; omega)⟩
      obtain ⟨bA, oA, rfl, hbA, hcA⟩ := (rdaH.out.below RPl.stable hbw.out).ptr (by omega)
      obtain ⟨x0, x1, x2⟩ := hcA k e he
      have hnx : (xs.take (k + 1)).map (fun e => [e]) = (xs.take k).map (fun e => [e]) ++ [[e]] := by
        obtain ⟨hk', rfl⟩ := List.getElem?_eq_some_iff.1 he
        rw [List.take_succ_eq_append_getElem hk', List.map_append]; rfl
      have hnxH := Lib.hid hnx
      have hGl : ((xs.take k).map fun e => [e]).length = k := by simp; have := hlqH.out; omega
      obtain ⟨G0, hG0⟩ : ∃ G0, (xs.take k).map (fun e => [e]) = G0 := ⟨_, rfl⟩
      rw [hG0] at hG hGl hnxH
      have hGlH := Lib.hid hGl
      clear he hcA hnx hG0 hGl
      go_wp2_with fail
      refine wp_region_ord [(0, .q), (1, .q), (2, .q), (3, .q), (4, .q), (5, .q), (6, .q), (7, .q), (10, .q), (11, .q), (12, .q), (13, .q), (14, .q), (15, .q), (16, .q), (17, .q), (8, .g), (9, .q), (18, .q), (19, .g), (20, .b), (21, .q)] (by kernel_rfl) (by kernel_rfl) ?_
      simp only [pick, List.filterMap_cons, List.filterMap_nil, List.getElem?_toArray, List.getElem?_cons_zero, List.getElem?_cons_succ, Option.map_some]
      repeat (first | ((with_reducible refine wpD_p (fun K hK => ?_)); go_simp; refine hK _ ?_; clear hK K) | ((with_reducible refine wpD_q (fun K hK => ?_)); go_simp; (first | refine hK _ ?_ | (go_bits; refine hK _ ?_) | (go_bits; go_simp; refine hK _ ?_)); clear hK K))
      with_reducible refine wpD_g (fun K hK => ?_)
      go_simp
      refine ⟨Grew.of_alloc _, hK _ _ ?_⟩
      clear hK K
      repeat (first | ((with_reducible refine wpD_p (fun K hK => ?_)); go_simp; refine hK _ ?_; clear hK K) | ((with_reducible refine wpD_q (fun K hK => ?_)); go_simp; (first | refine hK _ ?_ | (go_bits; refine hK _ ?_) | (go_bits; go_simp; refine hK _ ?_)); clear hK K))
      with_reducible refine wpD_g (fun K hK => ?_)
      go_simp
      refine ⟨Grew.of_alloc _, hK _ _ ?_⟩
      clear hK K
      have hb5 : Hid (Below wr.heap.size wr ((wr.alloc (Obj.cells #[.int .i64 e.x, .int .i64 e.y, .int .i64 e.t] 108)).alloc (Obj.cells #[.slice (some ⟨wr.heap.size, 0, none⟩) 1 1, .int .i64 e.t] 110)).drew) := Lib.hid (by exact bel_)
      have hx5 : Hid (((wr.alloc (Obj.cells #[.int .i64 e.x, .int .i64 e.y, .int .i64 e.t] 108)).alloc (Obj.cells #[.slice (some ⟨wr.heap.size, 0, none⟩) 1 1, .int .i64 e.t] 110)).drew.ownsRow w.heap.size 108 3 (.slice (some ⟨wr.heap.size, 0, none⟩) 1 1) 1 (plCells [e])) := Lib.hid (by
        have h1 := (World.ownsRow_lit (base := w.heap.size) (e := 108) (size := 3) wr #[.int .i64 e.x, .int .i64 e.y, .int .i64 e.t] 1 hsw (by decide) rfl)
        have h2 := (h1.alloc (Obj.cells #[.slice (some ⟨wr.heap.size, 0, none⟩) 1 1, .int .i64 e.t] 110))
        exact h2.kept (grown_drew _ none) (Classical.em _))
      refine wpD_append rfl _ _ 71 rfl w.heap.size 110 i0 (.agg #[.slice none 0 0, .int .i64 0]) 2 32 Tryz.underlying71 hi hz0 hz1 hz2 rfl (by decide) v k (gcCells L) (by go_simp) (by have := (hG.out.below hb5.out).own; rw [hGlH.out] at this; exact this) ⟨wr.heap.size + 1, 0, none⟩ 1 1 [.slice (some ⟨wr.heap.size, 0, none⟩) 1 1, .int .i64 e.t] (by go_simp) rfl ?hnews (fun x hx => by simp at hx; rcases hx with rfl | rfl <;> rfl) (by unfold maxLen; omega) (by omega) (by simp; omega) ?_
      case hnews =>
        have := cell_two_newI (wr.alloc (Obj.cells #[.int .i64 e.x, .int .i64 e.y, .int .i64 e.t] 108)) (.slice (some ⟨wr.heap.size, 0, none⟩) 1 1) (.int .i64 e.t) 110
        simpa using this
      intro v1 w6 hown hgrow
      have hG6 := Lib.hid ((hG.out.below hb5.out).push (x := ⟨some ⟨wr.heap.size, 0, none⟩, 1, 1, e.t⟩) (G := [e]) hx5.out rfl (by rw [hGlH.out]; exact hown) hgrow)
      have hbw6 := Lib.hid ((hbw.out.trans (hb5.out.mono hsw)).grown hgrow (by simp; omega) (fun g e => (hG.out.own.lt g e).1))
      clear hown hgrow hb5 hx5 hG hbw x0 x1 x2 a1 l1
      repeat (first | ((with_reducible refine wpD_p (fun K hK => ?_)); go_simp; refine hK _ ?_; clear hK K) | ((with_reducible refine wpD_q (fun K hK => ?_)); go_simp; (first | refine hK _ ?_ | (go_bits; refine hK _ ?_) | (go_bits; go_simp; refine hK _ ?_)); clear hK K))
      with_reducible refine wpD_nil ?_
      go_wp2_with fail
      go_roundg (q - (k + 1))
      case measure => omega
      case rel => exact ⟨k + 1, v1, _, by omega, by go_num, rfl, Lib.hid (by rw [hnxH.out]; exact hG6.out), hbw6⟩
    · obtain rfl : q = k := by omega
      have hall : (xs.take q).map (fun e => [e]) = xs.map fun e => [e] := by rw [List.take_of_length_le (by rw [hlqH.out]; exact Nat.le_refl _)]
      rw [hall] at hG
      have hP0 : Hid (Gps gs ts xs (xs.map fun e => [e])) := Lib.hid Gps.start
      have hl0 : Hid ((xs.map fun e => [e]).length = q) := Lib.hid (by rw [List.length_map]; exact hlqH.out)
      obtain ⟨G0, hG0⟩ : ∃ G0, xs.map (fun e => [e]) = G0 := ⟨_, rfl⟩
      obtain ⟨LL, hLL⟩ : ∃ LL, leftE gs ts xs T = LL := ⟨_, rfl⟩
      have hLLH := Lib.hid hLL
      rw [hG0] at hG hP0 hl0 hL0H
      rw [hLL] at hL0H
      have b1 := (hbw.out.cell (p := ⟨p, 1, none⟩) hltp).trans c2H.out
      have l2 : p < wr.heap.size := Nat.lt_of_lt_of_le hltp hbw.out.size
      clear hall hG0 hLL
      go_wp2_with fail
      obtain ⟨w2, hw2⟩ : ∃ W, W = wr.alloc (Obj.cells #[] 114) := ⟨_, rfl⟩
      rw [← hw2]
      have q0 : Hid (∃ Gs L, GRow w2 w.heap.size v L Gs ∧ Gps gs ts xs Gs ∧ Gs.length = q ∧ leftM T Gs.length (strM gs ts Gs) = LL) := Lib.hid ⟨G0, L, by rw [hw2]; exact hG.out.below (bl_al (bl_refl _) _), hP0.out, hl0.out, hL0H.out.symm⟩
      have qm : Hid (∃ xo, w2.ownsRow w.heap.size 114 4 (.slice (some ⟨wr.heap.size, 0, none⟩) 0 0) 0 xo) := Lib.hid ⟨[], by rw [hw2]; exact World.ownsRow_made _ _ _ hsw (by decide) rfl⟩
      have qb : Hid (Below w.heap.size w w2) := Lib.hid (by rw [hw2]; exact hbw.out.trans ((bl_al (bl_refl _) _).mono hsw))
      clear hw2 hG hP0 hl0 hL0H hbw a1 l1 b1 l2
      go_loopg [8, 10, 11] q (fun g y z x wr => ∃ (v vm : Value) (nn c nx : Nat), nn = g ∧ c + nn = q ∧ nx = m + c ∧ v = y ∧ vm = z ∧ x = .int .i64 (nx : Int) ∧ Hid (∃ Gs L, GRow wr w.heap.size v L Gs ∧ Gps gs ts xs Gs ∧ Gs.length = nn ∧ leftM T Gs.length (strM gs ts Gs) = LL) ∧ Hid (∃ xo, wr.ownsRow w.heap.size 114 4 vm c xo) ∧ Hid (Below w.heap.size w wr))
      case atStart => exact ⟨v, _, q, 0, m, rfl, by omega, by omega, rfl, rfl, rfl, q0, qm, qb⟩
      case round =>
        clear q0 qm qb hsw
        obtain ⟨v, vm, nn, c, nx, rfl, hc, hnx, rfl, rfl, rfl, hq', hm', hbw⟩ := hrel
        obtain ⟨Gs, L, hG, hP, hGn, hLL⟩ := hq'.out
        obtain ⟨xo, ho⟩ := hm'.out
        have hGH := Lib.hid hG
        have hPH := Lib.hid hP
        have hGnH := Lib.hid hGn
        have hLLH2 := Lib.hid hLL
        have hoH := Lib.hid ho
        have hsw := hbw.out.size
        clear hq' hm' hG hP hGn hLL ho
        go_wp2_with fail
        refine (l29Pair_any w.heap.size p pa v L gs ts xs Gs T _ (hSH.out.below hbw.out) hGH.out hPH.out hVH.out).mono ?_
        rintro e w3 ⟨⟨i, k, hf, rfl⟩ | ⟨hno, rfl⟩, hb3⟩
        · have hik := hf.1
          have hkn := hf.2.1
          have hkn2 : k < nn := by have := hGnH.out; omega
          have hin2 : i < nn := by omega
          have hiL : i < Gs.length := by omega
          have hiI : ¬ ((i : Int) < 0) := by omega
          have hG3 := hGH.out.below hb3
          have hbw3 := Lib.hid (hbw.out.trans (hb3.mono hsw))
          have ho3 := Lib.hid (ownsRow_below hoH.out hb3)
          obtain ⟨g, cg, rfl⟩ := hG3.form (by omega)
          have hA := getD_get (Gs := Gs) (i := i) (by omega)
          have hB := getD_get (Gs := Gs) (i := k) hkn
          obtain ⟨xA, hxA⟩ := hG3.getL (j := i) (by omega)
          obtain ⟨xB, hxB⟩ := hG3.getL (j := k) hkn
          obtain ⟨a0, a1, lg, rA, qA, hAa⟩ := hG3.at hxA hA
          obtain ⟨b0, b1, _, rB, qB, hBa⟩ := hG3.at hxB hB
          have nA : 0 < xA.q := by rw [qA]; exact List.length_pos_iff.2 (hPH.out.srt i _ hA).2
          have nB : 0 < xB.q := by rw [qB]; exact List.length_pos_iff.2 (hPH.out.srt k _ hB).2
          obtain ⟨gA, oA, hgA, lA, cA⟩ := rA.ptr nA
          obtain ⟨gB, oB, hgB, lB, cB⟩ := rB.ptr nB
          obtain ⟨eA, heA⟩ : ∃ e, (Gs.getD i [])[0]? = some e := ⟨_, List.getElem?_eq_getElem (by omega)⟩
          obtain ⟨eB, heB⟩ : ∃ e, (Gs.getD k [])[0]? = some e := ⟨_, List.getElem?_eq_getElem (by omega)⟩
          obtain ⟨p0, p1, _⟩ := cA 0 eA heA
          obtain ⟨r0, r1, _⟩ := cB 0 eB heB
          simp only [Nat.zero_mul, Nat.add_zero] at p0 p1 r0 r1
          rw [hgA] at a0
          rw [hgB] at b0
          have h2 := hPH.out.two hVH.out hik hA hB
          have h2H := Lib.hid h2.1
          have hlB : (Gs.getD k []).length ≤ 500 := by have := h2.2; omega
          have nAI : (0 : Int) < (xA.q : Int) := by omega
          have nBI : (0 : Int) < (xB.q : Int) := by omega
          have hG3H := Lib.hid hG3
          have hfH := Lib.hid hf
          have fg := hG3.own.frozenAt
          have fg0 := fg (i * 2)
          have fg1 := fg (i * 2 + 1)
          have hs3 := hbw3.out.size
          have hgb := (hG3.own.lt g rfl).1
          clear hG3 hA hB hxA hxB rA rB hAa hBa cA cB heA heB h2 hf fg hbw hb3 hoH hGH qA qB
          go_upto_region 13 with fail
          obtain ⟨w4, hw4⟩ : ∃ W, W = (w3.alloc (Obj.cells #[.int .i64 eA.x, .int .i64 eA.y] 57)).alloc (Obj.cells #[.int .i64 eB.x, .int .i64 eB.y] 57) := ⟨_, rfl⟩
          rw [← hw4]
          have s4 : w4.heap.size = w3.heap.size + 2 := by rw [hw4]; simp
          have hb4 : Below w3.heap.size w3 w4 := by rw [hw4]; exact bl_al (bl_al (bl_refl _) _) _
          have o0 : w4.cell? ⟨w3.heap.size, 0, none⟩ = some (.int .i64 eA.x) := by rw [hw4]; go_simp
          have o1 : w4.cell? ⟨w3.heap.size, 1, none⟩ = some (.int .i64 eA.y) := by rw [hw4]; go_simp
          have t0 : w4.cell? ⟨w3.heap.size + 1, 0, none⟩ = some (.int .i64 eB.x) := by rw [hw4]; go_simp
          have t1 : w4.cell? ⟨w3.heap.size + 1, 1, none⟩ = some (.int .i64 eB.y) := by rw [hw4]; go_simp
          replace a1 := (hb4.cell (p := ⟨g, i * 2 + 1, none⟩) lg).trans a1
          replace b1 := (hb4.cell (p := ⟨g, k * 2 + 1, none⟩) lg).trans b1
          have lg4 := Nat.lt_of_lt_of_le lg hb4.size
          have l4 : w3.heap.size < w4.heap.size := by omega
          have l5 : w3.heap.size + 1 < w4.heap.size := by omega
          have hG4 := Lib.hid (hG3H.out.below hb4)
          have hbw4 := Lib.hid (hbw3.out.trans (hb4.mono hs3))
          have ho4 := Lib.hid (ownsRow_below ho3.out hb4)
          have hs4 : w.heap.size ≤ w4.heap.size := by omega
          obtain ⟨dx, hdx⟩ : ∃ d, IntKind.i64.wrap (eB.x - eA.x) = d := ⟨_, rfl⟩
          obtain ⟨dy, hdy⟩ : ∃ d, IntKind.i64.wrap (eB.y - eA.y) = d := ⟨_, rfl⟩
          clear hw4 hb4 hG3H hbw3 ho3 p0 p1 r0 r1 a0 b0 lA lB fg0 fg1 s4 hs3 lg
          refine wp_region_ord [(0, .q), (1, .q), (2, .q), (3, .q), (4, .q), (5, .q), (6, .q), (7, .q), (8, .q), (9, .q), (10, .q), (11, .q), (12, .q), (13, .q), (14, .q), (15, .q), (16, .q), (17, .q), (18, .q), (19, .q), (20, .q), (21, .q), (22, .q), (23, .g), (24, .b), (25, .q)] (by kernel_rfl) (by kernel_rfl) ?_
          simp only [pick, List.filterMap_cons, List.filterMap_nil, List.getElem?_toArray, List.getElem?_cons_zero, List.getElem?_cons_succ, Option.map_some]
          repeat (first | ((with_reducible refine wpD_p (fun K hK => ?_)); go_simp; refine hK _ ?_; clear hK K) | ((with_reducible refine wpD_q (fun K hK => ?_)); go_simp; (first | refine hK _ ?_ | (go_bits; refine hK _ ?_) | (go_bits; go_simp; refine hK _ ?_)); clear hK K))
          with_reducible refine wpD_g (fun K hK => ?_)
          go_simp
          refine ⟨Grew.of_alloc _, hK _ _ ?_⟩
          clear hK K
          have hb5 : Hid (Below w4.heap.size w4 (w4.alloc (Obj.cells #[.int .i64 xA.it, .int .i64 xB.it, .int .i64 dx, .int .i64 dy] 114)).drew) := Lib.hid (by exact bel_)
          refine wpD_append rfl _ _ 72 rfl w.heap.size 114 i1 (.agg #[.int .i64 0, .int .i64 0, .int .i64 0, .int .i64 0]) 4 32 Tryz.underlying72 hi' hz0' hz1' hz2' rfl (by decide) vm c xo (by go_simp) (ownsRow_below ho4.out hb5.out) ⟨w4.heap.size, 0, none⟩ 1 1 [.int .i64 xA.it, .int .i64 xB.it, .int .i64 dx, .int .i64 dy] (by go_simp) rfl ?hnews2 (fun x hx => by simp at hx; rcases hx with rfl | rfl | rfl | rfl <;> rfl) (by unfold maxLen; omega) (by omega) (by simp; omega) ?_
          case hnews2 =>
            have := cell_four_newS w4 (.int .i64 xA.it) (.int .i64 xB.it) (.int .i64 dx) (.int .i64 dy) 114
            simpa using this
          intro vm5 w5 hown hgrow
          obtain ⟨gm5, cm5, rfl⟩ := ownsRow_succ hown
          have hG5 := Lib.hid ((hG4.out.below hb5.out).otherRow (ownsRow_below ho4.out hb5.out) (by decide) (by decide) hgrow)
          have ho5 := Lib.hid hown
          have hbw5 := Lib.hid ((hbw4.out.trans (hb5.out.mono hs4)).grown hgrow (by simp; omega) (fun g e => (ho4.out.lt g e).1))
          have hs5 : w.heap.size ≤ w5.heap.size := hbw5.out.size
          clear hown hgrow hb5 hG4 ho4 hbw4 o0 o1 t0 t1 a1 b1 lg4 l4 l5 hs4 hdx hdy
          repeat (first | ((with_reducible refine wpD_p (fun K hK => ?_)); go_simp; refine hK _ ?_; clear hK K) | ((with_reducible refine wpD_q (fun K hK => ?_)); go_simp; (first | refine hK _ ?_ | (go_bits; refine hK _ ?_) | (go_bits; go_simp; refine hK _ ?_)); clear hK K))
          with_reducible refine wpD_nil ?_
          have hA := getD_get (Gs := Gs) (i := i) (by omega)
          have hB := getD_get (Gs := Gs) (i := k) hkn
          obtain ⟨yA, hyA⟩ := hG5.out.getL (j := i) (by omega)
          obtain ⟨yB, hyB⟩ := hG5.out.getL (j := k) hkn
          obtain ⟨a0, a1, lg, _, _, hAa⟩ := hG5.out.at hyA hA
          obtain ⟨_, _, _, _, _, hBa⟩ := hG5.out.at hyB hB
          have hAaH := Lib.hid hAa
          have hBaH := Lib.hid hBa
          have fg := hG5.out.own.frozenAt
          have fg0 := fg (i * 2)
          have fg1 := fg (i * 2 + 1)
          obtain ⟨Z, hZ⟩ : ∃ Z, sortPl (Gs.getD i [] ++ Gs.getD k []) = Z := ⟨_, rfl⟩
          have hZH := Lib.hid hZ
          clear hA hB hyA hyB hAa hBa fg hZ
          go_wp2_with fail
          refine wp_region_fl 12 [(0, .q), (1, .q), (2, .q), (3, .q), (4, .q), (5, .q), (6, .q), (7, .q), (8, .g), (9, .q), (10, .q), (11, .p)] [(13, .b), (14, .q)] _ (Obj.cells #[.slice none 0 0] 40) (by kernel_rfl) (by kernel_rfl) (by kernel_rfl) (by kernel_rfl) rfl (fun a w => ⟨rfl, by unfold flPtr; go_simp⟩) ?_
          simp only [pick, List.filterMap_cons, List.filterMap_nil, List.getElem?_toArray, List.getElem?_cons_zero, List.getElem?_cons_succ, Option.map_some]
          repeat (first | ((with_reducible refine wpL_p (fun K hK => ?_)); go_simp; refine hK _ ?_; clear hK K) | ((with_reducible refine wpL_q (fun K hK => ?_)); go_simp; (first | refine hK _ ?_ | (go_bits; refine hK _ ?_) | (go_bits; go_simp; refine hK _ ?_)); clear hK K))
          with_reducible refine wpL_g rfl (fun K hK st4 u4 mv4 => ?_)
          have hu4 := mv4.below
          have fu4 := (FlAt.none (Obj.cells #[.slice none 0 0] 40) (World.drew w5)).mv mv4
          have j4 : Below w5.heap.size w5 u4 := (Below.refl _ w5).drew.trans (hu4.mono (Nat.le_refl _))
          clear mv4
          go_simp
          refine (l03Join_any g g gs ts (Gs.getD i []) (Gs.getD k []) _ (hAaH.out.below j4) (hBaH.out.below j4) h2H.out hlB).mono ?_
          rintro e w6 ⟨B6, c6, rfl, hown6, hb6⟩
          refine ⟨_, rfl, hb6, hK _ _ _ ?_⟩
          clear hK K
          rw [hZH.out] at hown6
          rw [hZH.out]
          have fd4 := fu4.below hb6
          have j5 : Below w5.heap.size w5 w6 := j4.trans (hb6.mono j4.size)
          have hown60 := ownsRow_baseV hown6 (show w.heap.size ≤ u4.heap.size by have := j4.size; omega)
          repeat (first | ((with_reducible refine wpL_p (fun K hK => ?_)); go_simp; refine hK _ ?_; clear hK K) | ((with_reducible refine wpL_q (fun K hK => ?_)); go_simp; (first | refine hK _ ?_ | (go_bits; refine hK _ ?_) | (go_bits; go_simp; refine hK _ ?_)); clear hK K))
          with_reducible refine wpL_nil (fun b12 w7 mvF => ?_)
          have huF := mvF.below
          obtain ⟨fl9, fb9⟩ := (fd4.mv mvF).2 _ rfl
          have j8 : Below w5.heap.size w5 w7 := j5.trans (huF.mono j5.size)
          clear mvF
          simp only [World.size_drew] at fl9
          have rF : w7.rowIs b12 40 1 (fun i => (#[.slice none 0 0] : Array Value).getD i undef) := ⟨_, fb9, rfl, fun i hi => by simp [hi]⟩
          have f0 : w7.cell? ⟨b12, 0, none⟩ = some (.slice none 0 0) := rF.cell (i := 0) (by decide)
          have f1 : w7.frozen? ⟨b12, 0, none⟩ = false := rF.frozen 0
          have lF : b12 < w7.heap.size := (Array.getElem?_eq_some_iff.1 fb9).1
          have hTF : TyAt w7 b12 40 := ⟨_, fb9⟩
          have hown7 := ownsRow_below hown60 huF
          have hG7 := hG5.out.below j8
          have ho7 := ownsRow_below ho5.out j8
          have hbw7 := hbw5.out.trans (j8.mono hs5)
          have gb : w.heap.size ≤ b12 := by omega
          have hgs8 : w7.grownBy (w7.setCell ⟨b12, 0, none⟩ (.slice B6 Z.length c6)) (some b12) := ⟨rfl, rfl, rfl, by simp, fun i hi hne => Below.heap_setCell _ _ _ _ (fun e => hne (by rw [e]))⟩
          have hG8 := Lib.hid (hG7.other hTF (by decide) (by decide) hgs8)
          have hkt : ∀ {u : Value} {n size : Nat} {T' : TypeId} {zs : List Value}, w7.ownsRow w.heap.size T' size u n zs → T' ≠ 40 → (w7.setCell ⟨b12, 0, none⟩ (.slice B6 Z.length c6)).ownsRow w.heap.size T' size u n zs := fun {u n size T' zs} hu hne => hu.kept hgs8 (by
            cases hb : u.ownBlock with
            | none => exact .inl rfl
            | some b => exact .inr fun e => (TyAt.of_row hu hb).ne hTF hne (by injection e))
          have hown8 := Lib.hid (hkt hown7 (by decide))
          have ho8 := Lib.hid (hkt ho7 (by decide))
          have hbw8 := Lib.hid (hbw7.setCell (p := ⟨b12, 0, none⟩) (by simp; omega) (.slice B6 Z.length c6))
          have hbg : ¬ b12 = g := hTF.ne (TyAt.of_row hG7.own rfl) (by decide)
          have hgb' : ¬ g = b12 := fun e => hbg e.symm
          replace a0 := (j8.cell (p := ⟨g, i * 2, none⟩) lg).trans a0
          replace a1 := (j8.cell (p := ⟨g, i * 2 + 1, none⟩) lg).trans a1
          replace fg0 := (j8.frozen (p := ⟨g, i * 2, none⟩) lg).trans fg0
          replace fg1 := (j8.frozen (p := ⟨g, i * 2 + 1, none⟩) lg).trans fg1
          replace lg := Nat.lt_of_lt_of_le lg j8.size
          clear fu4 fd4 hu4 huF hb6 j4 j5 j8 fb9 rF hown7 hown60 hown6 hG7 ho7 hbw7 hTF hgs8 hkt fl9 hG5 ho5 hbw5 hs5
          simp only [flPtr]
          with_reducible refine wpD_b (fun K hK => ?_)
          go_simp
          refine hK _ _ ?_
          clear hK K
          repeat (first | ((with_reducible refine wpD_p (fun K hK => ?_)); go_simp; refine hK _ ?_; clear hK K) | ((with_reducible refine wpD_q (fun K hK => ?_)); go_simp; (first | refine hK _ ?_ | (go_bits; refine hK _ ?_) | (go_bits; go_simp; refine hK _ ?_)); clear hK K))
          with_reducible refine wpD_nil ?_
          have hwn : IntKind.i64.wrap ((m : Int) + (c : Int) + 1) = (m : Int) + (c : Int) + 1 := IntWalk.i64_in _ ⟨by omega, by omega⟩
          go_upto_region 17 with fail
          obtain ⟨w9, hw9⟩ : ∃ W, W = ((w7.setCell ⟨b12, 0, none⟩ (.slice B6 Z.length c6)).setCell ⟨g, i * 2, none⟩ (.slice B6 Z.length c6)).setCell ⟨g, i * 2 + 1, none⟩ (.int .i64 ((m : Int) + (c : Int))) := ⟨_, rfl⟩
          rw [← hw9]
          obtain ⟨L9, hL9⟩ : ∃ L9, L9 = L.set i ⟨B6, Z.length, c6, (m : Int) + (c : Int)⟩ := ⟨_, rfl⟩
          have hG9 : GRow w9 w.heap.size (.slice (some ⟨g, 0, none⟩) (Gs.set i Z).length cg) L9 (Gs.set i Z) := by
            rw [hw9, hL9]
            exact hG8.out.set (x := ⟨B6, Z.length, c6, (m : Int) + (c : Int)⟩) (G := Z) hiL hown8.out rfl
          have hst := hG8.out.own.stored (i * 2) (.slice B6 Z.length c6)
          have hst2 := hst.1.stored (i * 2 + 1) (.int .i64 ((m : Int) + (c : Int)))
          have hg9 := grown_two hst.2 hst2.2
          rw [← hw9] at hg9
          have hTG : TyAt (w7.setCell ⟨b12, 0, none⟩ (.slice B6 Z.length c6)) g 110 := TyAt.of_row hG8.out.own rfl
          have ho9 := Lib.hid (ho8.out.kept hg9 (by
            refine .inr fun e => ?_
            exact (TyAt.of_row ho8.out rfl).ne hTG (by decide) (by injection e)))
          have hbw9 := Lib.hid (hbw8.out.grown hg9 hbw8.out.size (fun g' e => by injection e with e; omega))
          have hls : (Gs.set i Z).length = Gs.length := List.length_set
          rw [hls] at hG9
          have hZp : putG i k Gs = (Gs.set i Z).eraseIdx k := by unfold putG; rw [hZH.out]
          obtain ⟨n, hn⟩ : ∃ n, Gs.length = n := ⟨_, rfl⟩
          have hnH := Lib.hid hn
          have hZpH := Lib.hid hZp
          rw [hn] at hG9 hls hkn hiL
          rw [hn]
          have hr := hG9.own
          rw [hls] at hr
          obtain ⟨j, hj⟩ : ∃ j, j = k + 1 := ⟨_, rfl⟩
          have hcm : n ≤ cg ∧ cg ≤ maxLen := by
            obtain ⟨f, _, _, _, h3, h4, _⟩ := rowIs_of_owns hr
            exact ⟨h3, h4⟩
          have hn63 : cg ≤ 9223372036854775807 := by have := hcm.2; unfold maxLen at this; omega
          have hd : w9.drew.ownsRow w.heap.size 110 2 (.slice (some ⟨g, 0, none⟩) n cg) n (gcCells L9) := hr.kept (grown_drew w9 none) (Classical.em _)
          have hl9 : (gcCells L9).length = n * 2 := hr.1
          obtain ⟨news, hnews⟩ : ∃ news, news = (gcCells L9).drop (j * 2) := ⟨_, rfl⟩
          have hlen : news.length = (n - j) * 2 := by rw [hnews]; simp; omega
          obtain ⟨Ad, hAd, hsrc⟩ : ∃ Ad : Addr, (if cg = j then some (⟨g, 0, none⟩ : Addr) else some ⟨g, j * 2, none⟩) = some Ad ∧ Hid (∀ t u, news[t]? = some u → w9.drew.cell? (Ad.add t) = some u) := by
            by_cases hc' : cg = j
            · refine ⟨⟨g, 0, none⟩, by simp [hc'], Lib.hid fun t u hu => ?_⟩
              have h0 : news.length = 0 := by rw [hlen]; have := hcm.1; omega
              rw [List.length_eq_zero_iff.1 h0] at hu
              simp at hu
            · refine ⟨⟨g, j * 2, none⟩, by simp [hc'], Lib.hid fun t u hu => ?_⟩
              have ht := (List.getElem?_eq_some_iff.1 hu).1
              rw [hlen] at ht
              rw [Addr.add_lit, hd.cellAt _ (by omega)]
              rw [hnews, List.getElem?_drop] at hu
              exact hu
          have z1 : Hid (news.length = (n - j) * 2) := Lib.hid hlen
          have z2 : Hid (∀ u ∈ news, u.oneCell' = true) := Lib.hid fun u hu => gcCells_one L9 u (List.mem_of_mem_drop (hnews ▸ hu))
          have z3 : Hid (∀ t, t < news.length → (w9.drew.cell? ⟨g, 0 + k * 2 + t, none⟩).isSome = true ∧ w9.drew.frozen? ⟨g, 0 + k * 2 + t, none⟩ = false) := Lib.hid fun t ht => by
            rw [hlen] at ht
            refine ⟨?_, hd.frozenAt _⟩
            rw [hd.cellAt _ (by omega), List.getElem?_eq_getElem (by omega)]
            rfl
          obtain ⟨W1, hW1⟩ : ∃ W1, W1 = w9.drew.setCells g (0 + k * 2) news := ⟨_, rfl⟩
          have hcut := cutAt_of hr hkn
          rw [← hj, ← hnews] at hcut
          rw [show k * 2 = 0 + k * 2 by omega, ← hW1] at hcut
          have hcut1 := hcut.1
          rw [show (0 + k * 2) = k * 2 by omega, hnews, hj] at hcut1
          have hGN := Lib.hid (hG9.cut hls (by rw [hls]; exact hkn) hcut.2 hcut1)
          have hTG9 : TyAt w9 g 110 := TyAt.of_row hr rfl
          have hoN := Lib.hid (ho9.out.kept hcut.2 (by
            refine .inr fun e => ?_
            exact (TyAt.of_row ho9.out rfl).ne hTG9 (by decide) (by injection e)))
          have hbwN := Lib.hid (hbw9.out.grown hcut.2 hbw9.out.size (fun g' e => by injection e with e; omega))
          have hW : Hid (W1 = w9.drew.setCells g (0 + k * 2) news) := Lib.hid hW1
          have hPN := Lib.hid (hPH.out.put hVH.out hik (by have := hnH.out; omega))
          have hLN := Lib.hid ((left_put hPH.out hVH.out hfH.out).symm.trans hLLH2.out)
          have hjk : IntKind.i64.wrap ((k : Int) + 1) = (j : Int) := by rw [IntWalk.i64_in _ ⟨by omega, by omega⟩]; omega
          have hic : k ≤ cg := by have := hcm.1; omega
          have hjc : j ≤ cg := by have := hcm.1; omega
          have hjn : j ≤ n := by omega
          have hnc := hcm.1
          have hkj3 : k + (n - j) = n - 1 := by omega
          have mixed : Tryz.prog.follows Departure.mixedOrders = true := by kernel_rfl
          have hnn1 : n = nn := by have := hnH.out; have := hGnH.out; omega
          have hnnH := Lib.hid hnn1
          clear hw9 hL9 hG9 hst hst2 hg9 hTG hls hZp hn hr hcm hd hl9 hnews hlen hW1 hcut hcut1 hTG9 hj hwn hnn1 hG8 ho8 hbw8 a0 a1 fg0 fg1 f0 f1 lF hbg hgb' gb
          go_wp2_with fail
          go_region_law_o (refine step_append_room rfl (.tmp 131) (.tmp 135) 71 rfl 110 i0 2 Tryz.underlying71 hi hz1 g 0 k cg (by simp [Act.eval, Act.put]) Ad (n - j) (cg - j) news (by simp [Act.eval, Act.put]) z1.out hsrc.out z2.out (by omega) z3.out ?_; rw [← hW.out])
          go_wp2_with fail
          go_roundg (nn - 1)
          case measure => omega
          case rel =>
            refine ⟨_, _, nn - 1, c + 1, m + c + 1, rfl, by omega, by omega, rfl, rfl, by push_cast; rfl, Lib.hid ⟨putG i k Gs, _, by rw [hZpH.out]; exact hGN.out, hPN.out, by rw [putG_len (by have := hnH.out; omega)]; have := hGnH.out; omega, hLN.out⟩, Lib.hid ⟨_, hoN.out⟩, hbwN⟩
        · have hL2 : LL = Gs.length := by rw [← hLLH2.out]; exact leftM_none hno
          have hL2H := Lib.hid hL2
          obtain ⟨AG, cG, rfl⟩ := ownsRow_form hGH.out.own
          have hbw3 := Lib.hid (hbw.out.trans (hb3.mono hsw))
          clear hL2 hb3 hbw
          go_wp2_with fail
          go_ret2
          rw [hLLH.out, hL2H.out]
          exact ⟨_, _, _, rfl, hbw3.out⟩
end Go.Proofs.YthieodccakphiaaGreat
