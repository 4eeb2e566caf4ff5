/- Walks: numbers drawn from a source, its bytes left open; appends in regions with calls that turn the source. -/
import Derived.Test.YtpnahobgmemdjaaKF
import Derived.Test.YtpnahobgmemdjaaN3
namespace Go.Proofs.Ytpnahobgmemdjaa
open Go.RowKit
set_option linter.unusedSimpArgs false
set_option linter.unusedVariables false
attribute [local go_sem] BelowBy.cell BelowBy.cell_drew stillUpon givesUpon KpBy.cell KpBy.cell_drew

/-- a source in block p of which at most K numbers were asked -/
def SrcE (w : World) (p K : Nat) : Prop := ∃ (C : Option Addr) (n c : Nat) (bs : List Nat) (a s : Nat), Src w p C n c bs a s ∧ a ≤ K ∧ n ≤ 1000000
theorem SrcE.lt {w : World} {p K : Nat} (h : SrcE w p K) : p < w.heap.size := by obtain ⟨_, _, _, _, _, _, h, _⟩ := h; exact h.lt
theorem SrcE.below {w w' : World} {p K : Nat} (h : SrcE w p K) (hb : Below w.heap.size w w') : SrcE w' p K := by
  obtain ⟨C, n, c, bs, a, s, h, h1, h2⟩ := h; exact ⟨C, n, c, bs, a, s, h.below hb, h1, h2⟩
theorem SrcE.belowB {B : Nat} {w w' : World} {p K : Nat} (h : SrcE w p K) (hp : p < B) (hb : Below B w w') : SrcE w' p K := by
  obtain ⟨C, n, c, bs, a, s, h, h1, h2⟩ := h; exact ⟨C, n, c, bs, a, s, h.belowB hp hb, h1, h2⟩
theorem SrcE.more {w : World} {p K K' : Nat} (h : SrcE w p K) (hk : K ≤ K') : SrcE w p K' := by
  obtain ⟨C, n, c, bs, a, s, h, h1, h2⟩ := h; exact ⟨C, n, c, bs, a, s, h, Nat.le_trans h1 hk, h2⟩
/-- a drawn number -/
def PickE (p K N : Nat) (w : World) (e : Ending) (w' : World) : Prop := ∃ v : Nat, e = .returned (.int .i64 (v : Int)) ∧ v < N ∧ SrcE w' p (K + 1) ∧ Kp p w w'
theorem pickE_any {p K : Nat} {N : Int} (M : Nat) {w : World} (h : SrcE w p K) (hK : K ≤ 900000) (hN : N = M) (h1 : 1 ≤ M) (h2 : M ≤ 200) :
    Calls Try.prog 61 #[.pointer (some ⟨p, 0, none⟩), .int .i64 N] w (PickE p K M w) := by
  subst hN
  obtain ⟨C, n, c, bs, a, s, h, ha, hn⟩ := h
  rcases Nat.lt_or_ge M 2 with h3 | h3
  · obtain rfl : M = 1 := by omega
    have hH := Lib.hid h
    clear h
    go_enter Try.func61, Try.ntmps61
    go_wp2
    go_ret
    exact ⟨0, rfl, by omega, ⟨C, n, c, bs, a, s, hH.out, by omega, hn⟩, Kp.refl _ _⟩
  · refine (pick_any h (by omega) hn h3 h2).mono ?_
    rintro e w1 ⟨v, s', rfl, hv, hS, hk⟩
    exact ⟨v, rfl, hv, ⟨C, n, c, bs, _, _, hS, by omega, hn⟩, hk⟩
def OneE (p K : Nat) (w : World) (e : Ending) (w' : World) : Prop := ∃ v : Bool, e = .returned (.bool v) ∧ SrcE w' p (K + 1) ∧ Kp p w w'
set_option maxRecDepth 100000 in
theorem oneE_any {p K : Nat} {N : Int} (M : Nat) {w : World} (h : SrcE w p K) (hK : K ≤ 900000) (hN : N = M) (h1 : 1 ≤ M) (h2 : M ≤ 200) :
    Calls Try.prog 28 #[.pointer (some ⟨p, 0, none⟩), .int .i64 N] w (OneE p K w) := by
  subst hN
  have hH := Lib.hid h
  clear h
  go_enter Try.func28, Try.ntmps28
  go_wp2_with (go_at_call 61; refine (pickE_any M hH.out hK rfl h1 h2).mono ?_; rintro e w1 ⟨v, rfl, hv, hS, hb⟩; have hSH := Lib.hid hS; have hbH := Lib.hid hb; clear hS hb)
  go_ret
  exact ⟨_, rfl, hSH.out, hbH.out⟩
theorem l00FromE_any {C : Option Addr} {n c : Nat} {bs : List Nat} {w : World} (h : RdSl 1 RBy w C n bs) (hn : n ≤ 1000000) :
    Calls Try.prog 25 #[.slice C n c] w fun e w' => ∃ p, e = .returned (.pointer (some ⟨p, 0, none⟩)) ∧ w.heap.size ≤ p ∧ SrcE w' p 0 ∧ Below w.heap.size w w' := by
  refine (l00From_any _ h).mono ?_
  rintro e w1 ⟨p, rfl, hp, hS, hb⟩
  exact ⟨p, rfl, hp, ⟨C, n, c, bs, 0, 0, hS, Nat.le_refl _, hn⟩, hb⟩
/-- the blocks of a world but the source's -/
theorem Kp.blockOf {p : Nat} {w w' : World} (h : Kp p w w') {b : Nat} (hb : b ≠ p) (hl : b < w.heap.size) : w'.heap[b]? = w.heap[b]? := h.keep b hb hl
theorem Kp.lt {p : Nat} {w w' : World} (h : Kp p w w') {b : Nat} (hl : b < w.heap.size) : b < w'.heap.size := Nat.lt_of_lt_of_le hl h.below.size
theorem Kp.grown {p : Nat} {w w' : World} (h : Kp p w w') : w.grownBy w' (some p) := ⟨h.below.os, h.below.tape, h.below.output, h.below.size, fun k hk hne => h.keep k (fun e => hne (by rw [e])) hk⟩
theorem Kp.thenGrown {p B : Nat} {w w1 w2 : World} {row : Option Nat} (h : Kp p w w1) (hB : w.heap.size ≤ B) (hBw : B ≤ w1.heap.size) (hpw : p < w.heap.size) (hg : w1.grownBy w2 row) (hr : ∀ g, row = some g → B ≤ g) : Kp p w w2 := by
  have hb : Below B w1 w2 := (Below.refl B w1).grown hg hBw hr
  exact h.thenB hpw (hb.mono hB)
theorem Own_kp {p B : Nat} {w w' : World} {e : TypeId} {size : Nat} {v : Value} {n : Nat} {xs : List Value} (h : w.ownsRow B e size v n xs) (hp : p < B) (hk : Kp p w w') : w'.ownsRow B e size v n xs := by
  refine h.kept hk.grown ?_
  cases hb : v.ownBlock with
  | none => exact .inl rfl
  | some g => exact .inr fun e' => by have := (h.lt g hb).1; injection e'; omega
theorem OwnT.kp {p B : Nat} {w w' : World} {T E : TypeId} {v : Value} {us : List Value} {ts : List Ti} (h : OwnT w B T E v us ts) (hp : p < B) (hk : Kp p w w') : OwnT w' B T E v us ts :=
  h.kept hk.grown fun g e => by
    injection e with e
    subst e
    exact ⟨fun e' => by have := (h.lt _ e').1; omega, fun k u hu e' => by have := (h.ltIn hu _ e').1; omega⟩
theorem ownsRow_bB {w w' : World} {base B0 : Nat} {e : TypeId} {size : Nat} {v : Value} {n : Nat} {xs : List Value} (h : w.ownsRow base e size v n xs) (hlt : ∀ g, v.ownBlock = some g → g < B0) (hb : Below B0 w w') : w'.ownsRow base e size v n xs := by
  rcases h.2 with ⟨rfl, h0⟩ | ⟨g, cap, cur, rfl, h1, h2, h3⟩
  · exact ⟨h.1, .inl ⟨rfl, h0⟩⟩
  · exact ⟨h.1, .inr ⟨g, cap, cur, rfl, h1, (hb.block g (hlt g rfl)).trans h2, h3⟩⟩
theorem OwnT.bB {w w' : World} {base B0 : Nat} {T E : TypeId} {v : Value} {us : List Value} {ts : List Ti} (h : OwnT w base T E v us ts) (hl : w.heap.size ≤ B0) (hb : Below B0 w w') : OwnT w' base T E v us ts := h.below (hb.mono hl)
/-- a box of the call's own: its cells, none of them frozen -/
structure Bx (W : World) (b : Nat) (l : List Value) : Prop where
  lt : b < W.heap.size
  cell : ∀ j u, l[j]? = some u → W.cell? ⟨b, j, none⟩ = some u
  froz : ∀ j, W.frozen? ⟨b, j, none⟩ = false
theorem Bx.of_block {W W' : World} {b : Nat} {l : List Value} (h : Bx W b l) (hs : W.heap.size ≤ W'.heap.size) (hk : W'.heap[b]? = W.heap[b]?) : Bx W' b l :=
  ⟨Nat.lt_of_lt_of_le h.lt hs, fun j u hu => (World.cell?_of_block (a := ⟨b, j, none⟩) hk).trans (h.cell j u hu), fun j => (World.frozen?_of_block (a := ⟨b, j, none⟩) hk).trans (h.froz j)⟩
theorem Bx.below {W W' : World} {b : Nat} {l : List Value} (h : Bx W b l) (hb : Below W.heap.size W W') : Bx W' b l := h.of_block hb.size (hb.block b h.lt)
theorem Bx.belowB {B : Nat} {W W' : World} {b : Nat} {l : List Value} (h : Bx W b l) (hlt : b < B) (hb : Below B W W') : Bx W' b l := h.of_block hb.size (hb.block b hlt)
theorem Bx.kp {p : Nat} {W W' : World} {b : Nat} {l : List Value} (h : Bx W b l) (hne : b ≠ p) (hk : Kp p W W') : Bx W' b l := h.of_block hk.below.size (hk.keep b hne h.lt)
theorem Bx.grown {W W' : World} {b : Nat} {l : List Value} {row : Option Nat} (h : Bx W b l) (hg : W.grownBy W' row) (hne : row ≠ some b) : Bx W' b l := h.of_block hg.size (hg.block b h.lt (fun e => hne e.symm))
theorem Bx.setOther {W : World} {b : Nat} {l : List Value} (h : Bx W b l) {a : Addr} (hne : a.block ≠ b) (u : Value) : Bx (W.setCell a u) b l := h.of_block (by simp) (Below.heap_setCell _ _ _ _ (fun e => hne e.symm))
theorem Bx.setSame {W : World} {b : Nat} {l : List Value} (h : Bx W b l) (i : Nat) (u : Value) : Bx (W.setCell ⟨b, i, none⟩ u) b (l.set i u) := by
  refine ⟨by simpa using h.lt, fun j v hv => ?_, fun j => ?_⟩
  · by_cases e : i = j
    · subst e
      rw [List.getElem?_set_self' ] at hv
      cases hl : l[i]? with
      | none => rw [hl] at hv; cases hv
      | some x =>
        rw [hl] at hv
        have hv2 : u = v := by simpa using hv
        subst hv2
        have hc := h.cell i x hl
        have hlt := h.lt
        go_simp
    · rw [List.getElem?_set_ne e] at hv
      have hc := h.cell j v hv
      have hlt := h.lt
      have e2 : j ≠ i := fun e' => e e'.symm
      go_simp
  · have := h.froz j
    have hlt := h.lt
    go_simp
theorem Bx.made (W : World) (l : List Value) (t : TypeId) : Bx (W.alloc (.cells l.toArray t)) W.heap.size l := by
  refine ⟨by simp, fun j u hu => ?_, fun j => by go_simp⟩
  have h := heap_alloc_new W (.cells l.toArray t)
  simp only [World.cell?, h]
  simpa using hu
section
variable {P : Program} {ops : Array Oper} {p : Nat}
theorem wpK_append_at {o : Oper} {rest : List (Oper × Tag)} {a : Act} {w : World} {Q : Act → World → Prop} (hgd : o.guard = none) (s x : Operand) (t : TypeId)
    (ho : o.op = .call { callee := .builtin .append, args := #[s, x], argTypes := #[t, t] })
    (base : Nat) (e : TypeId) (i : TypeInfo) (z : Value) (size bytes : Nat) (ht : P.underlying t = some (.slice e)) (hi : P.info? e = some i) (hz : i.zero = some z)
    (hsize : i.size = size) (hby : i.bytes = bytes) (hzs : z.cells.size = size) (hsz : 0 < size)
    (v : Value) (n : Nat) (xs : List Value) (hs : a.eval s = v) (hown : w.ownsRow base e size v n xs)
    (ad : Addr) (m c : Nat) (news : List Value) (hx : a.eval x = .slice (some ad) m c) (hl : news.length = m * size) (hnews : ∀ j u, news[j]? = some u → w.cell? (ad.add j) = some u) (h1 : ∀ u ∈ news, u.oneCell' = true)
    (h63 : n + m ≤ maxLen) (hbytes : (n + m) * bytes ≤ 140737488355328) (hbase : base ≤ w.heap.size)
    (h : ∀ v' w', w'.ownsRow base e size v' (n + m) (xs ++ news) → w.grownBy w' v.ownBlock → (v'.ownBlock = v.ownBlock ∨ v'.ownBlock = some w.heap.size) → wpK P ops p Q rest (a.put o.dst v') w') : wpK P ops p Q ((o, .b) :: rest) a w := by
  refine wpK_b fun K hK => ?_
  have hw : Region.wanted o (yielded ops a.tmps) = true := by simp [Region.wanted, hgd]
  rw [if_pos hw]
  obtain ⟨v', w', hrun, h2, h3, _, h4⟩ := run_append_own_at (P := P) w base t o.type e i z size bytes ht hi hz hsize hby hzs hsz v n xs hown ad m c news hl hnews h1 h63 hbytes hbase
  unfold execOp
  simp only [ho, resolve, invoke, builtin, Sem.run_bind, Sem.run_pure, Result.andThen_ok, List.map_toArray, List.map_cons, List.map_nil, hs, hx, hrun]
  exact hK _ _ (h v' w' h2 h3 h4)
end
end Go.Proofs.Ytpnahobgmemdjaa
