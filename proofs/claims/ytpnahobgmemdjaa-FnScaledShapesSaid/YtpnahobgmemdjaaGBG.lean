import Derived.Test.YtpnahobgmemdjaaGBF
import Derived.Test.YtpnahobgmemdjaaGBC
import Derived.Test.YtpnahobgmemdjaaGAR
import Derived.Test.YtpnahobgmemdjaaGAE
import Derived.Test.YtpnahobgmemdjaaGBD
import Derived.Test.YtpnahobgmemdjaaGAQ
import Derived.Test.YtpnahobgmemdjaaGAO
set_option linter.unusedSimpArgs false
set_option linter.unusedVariables false
/- Walks: numbers drawn from a source, its bytes left open; appends in regions with calls that turn the source. -/


namespace Go.Proofs.Ytpnahobgmemdjaa
open Go.RowKit
attribute [local go_sem] BelowBy.cell BelowBy.cell_drew stillUpon givesUpon KpBy.cell KpBy.cell_drew

/-- a source in block p of which at most K numbers were asked -/
def SrcE (w : World) (p K : Nat) : Prop := ∃ (C : Option Addr) (n c : Nat) (bs : List Nat) (a s : Nat), Src w p C n c bs a s ∧ a ≤ K ∧ n ≤ 1000000
theorem SrcE.lt {w : World} {p K : Nat} (h : SrcE w p K) : p < w.heap.size := by obtain ⟨_, _, _, _, _, _, h, _⟩ := h; exact h.lt
theorem SrcE.below {w w' : World} {p K : Nat} (h : SrcE w p K) (hb : Below w.heap.size w w') : SrcE w' p K := by
  obtain ⟨C, n, c, bs, a, s, h, h1, h2⟩ := h; exact ⟨C, n, c, bs, a, s, h.below hb, h1, h2⟩
theorem SrcE.belowB {B : Nat} {w w' : World} {p K : Nat} (h : SrcE w p K) (hp : p < B) (hb : Below B w w') : SrcE w' p K := by
  obtain ⟨C, n, c, bs, a, s, h, h1, h2⟩ := h; exact ⟨C, n, c, bs, a, s, h.belowB hp hb, h1, h2⟩
theorem SrcE.more {w : World} {p K K' : Nat} (h : SrcE w p K) (hk : K ≤ K') : SrcE w p K' := by
  obtain ⟨C, n, c, bs, a, s, h, h1, h2⟩ := h; exact ⟨C, n, c, bs, a, s, h, Nat.le_trans h1 hk, h2⟩
/-- a drawn number -/
def PickE (p K N : Nat) (w : World) (e : Ending) (w' : World) : Prop := ∃ v : Nat, e = .returned (.int .i64 (v : Int)) ∧ v < N ∧ SrcE w' p (K + 1) ∧ Kp p w w'
theorem pickE_any {p K : Nat} {N : Int} (M : Nat) {w : World} (h : SrcE w p K) (hK : K ≤ 900000) (hN : N = M) (h1 : 1 ≤ M) (h2 : M ≤ 200) :
    Calls Try.prog 61 #[.pointer (some ⟨p, 0, none⟩), .int .i64 N] w (PickE p K M w) := by
  subst hN
  obtain ⟨C, n, c, bs, a, s, h, ha, hn⟩ := h
  rcases Nat.lt_or_ge M 2 with h3 | h3
  · obtain rfl : M = 1 := by omega
    have hH := Lib.hid h
    clear h
    go_enter Try.func61, Try.ntmps61
    go_wp2
    go_ret
    exact ⟨0, rfl, by omega, ⟨C, n, c, bs, a, s, hH.out, by omega, hn⟩, Kp.refl _ _⟩
  · refine (pick_any h (by omega) hn h3 h2).mono ?_
    rintro e w1 ⟨v, s', rfl, hv, hS, hk⟩
    exact ⟨v, rfl, hv, ⟨C, n, c, bs, _, _, hS, by omega, hn⟩, hk⟩
def OneE (p K : Nat) (w : World) (e : Ending) (w' : World) : Prop := ∃ v : Bool, e = .returned (.bool v) ∧ SrcE w' p (K + 1) ∧ Kp p w w'
set_option maxRecDepth 100000 in
theorem oneE_any {p K : Nat} {N : Int} (M : Nat) {w : World} (h : SrcE w p K) (hK : K ≤ 900000) (hN : N = M) (h1 : 1 ≤ M) (h2 : M ≤ 200) :
    Calls Try.prog 28 #[.pointer (some ⟨p, 0, none⟩), .int .i64 N] w (OneE p K w) := by
  subst hN
  have hH := Lib.hid h
  clear h
  go_enter Try.func28, Try.ntmps28
  go_wp2_with (go_at_call 61; refine (pickE_any M hH.out hK rfl h1 h2).mono ?_; rintro e w1 ⟨v, rfl, hv, hS, hb⟩; have hSH := Lib.hid hS; have hbH := Lib.hid hb; clear hS hb)
  go_ret
  exact ⟨_, rfl, hSH.out, hbH.out⟩
theorem l00FromE_any {C : Option Addr} {n c : Nat} {bs : List Nat} {w : World} (h : RdSl 1 RBy w C n bs) (hn : n ≤ 1000000) :
    Calls Try.prog 25 #[.slice C n c] w fun e w' => ∃ p, e = .returned (.pointer (some ⟨p, 0, none⟩)) ∧ w.heap.size ≤ p ∧ SrcE w' p 0 ∧ Below w.heap.size w w' := by
  refine (l00From_any _ h).mono ?_
  rintro e w1 ⟨p, rfl, hp, hS, hb⟩
  exact ⟨p, rfl, hp, ⟨C, n, c, bs, 0, 0, hS, Nat.le_refl _, hn⟩, hb⟩
/-- the blocks of a world but the source's -/
theorem Kp.blockOf {p : Nat} {w w' : World} (h : Kp p w w') {b : Nat} (hb : b ≠ p) (hl : b < w.heap.size) : w'.heap[b]? = w.heap[b]? := h.keep b hb hl
theorem Kp.lt {p : Nat} {w w' : World} (h : Kp p w w') {b : Nat} (hl : b < w.heap.size) : b < w'.heap.size := Nat.lt_of_lt_of_le hl h.below.size
theorem Kp.grown {p : Nat} {w w' : World} (h : Kp p w w') : w.grownBy w' (some p) := ⟨h.below.os, h.below.tape, h.below.output, h.below.size, fun k hk hne => h.keep k (fun e => hne (by rw [e])) hk⟩
theorem Kp.thenGrown {p B : Nat} {w w1 w2 : World} {row : Option Nat} (h : Kp p w w1) (hB : w.heap.size ≤ B) (hBw : B ≤ w1.heap.size) (hpw : p < w.heap.size) (hg : w1.grownBy w2 row) (hr : ∀ g, row = some g → B ≤ g) : Kp p w w2 := by
  have hb : Below B w1 w2 := (Below.refl B w1).grown hg hBw hr
  exact h.thenB hpw (hb.mono hB)
theorem Own_kp {p B : Nat} {w w' : World} {e : TypeId} {size : Nat} {v : Value} {n : Nat} {xs : List Value} (h : w.ownsRow B e size v n xs) (hp : p < B) (hk : Kp p w w') : w'.ownsRow B e size v n xs := by
  refine h.kept hk.grown ?_
  cases hb : v.ownBlock with
  | none => exact .inl rfl
  | some g => exact .inr fun e' => by have := (h.lt g hb).1; injection e'; omega
theorem OwnT.kp {p B : Nat} {w w' : World} {T E : TypeId} {v : Value} {us : List Value} {ts : List Ti} (h : OwnT w B T E v us ts) (hp : p < B) (hk : Kp p w w') : OwnT w' B T E v us ts :=
  h.kept hk.grown fun g e => by
    injection e with e
    subst e
    exact ⟨fun e' => by have := (h.lt _ e').1; omega, fun k u hu e' => by have := (h.ltIn hu _ e').1; omega⟩
theorem ownsRow_bB {w w' : World} {base B0 : Nat} {e : TypeId} {size : Nat} {v : Value} {n : Nat} {xs : List Value} (h : w.ownsRow base e size v n xs) (hlt : ∀ g, v.ownBlock = some g → g < B0) (hb : Below B0 w w') : w'.ownsRow base e size v n xs := by
  rcases h.2 with ⟨rfl, h0⟩ | ⟨g, cap, cur, rfl, h1, h2, h3⟩
  · exact ⟨h.1, .inl ⟨rfl, h0⟩⟩
  · exact ⟨h.1, .inr ⟨g, cap, cur, rfl, h1, (hb.block g (hlt g rfl)).trans h2, h3⟩⟩
theorem OwnT.bB {w w' : World} {base B0 : Nat} {T E : TypeId} {v : Value} {us : List Value} {ts : List Ti} (h : OwnT w base T E v us ts) (hl : w.heap.size ≤ B0) (hb : Below B0 w w') : OwnT w' base T E v us ts := h.below (hb.mono hl)
/-- a box of the call's own: its cells, none of them frozen -/
structure Bx (W : World) (b : Nat) (l : List Value) : Prop where
  lt : b < W.heap.size
  cell : ∀ j u, l[j]? = some u → W.cell? ⟨b, j, none⟩ = some u
  froz : ∀ j, W.frozen? ⟨b, j, none⟩ = false
theorem Bx.of_block {W W' : World} {b : Nat} {l : List Value} (h : Bx W b l) (hs : W.heap.size ≤ W'.heap.size) (hk : W'.heap[b]? = W.heap[b]?) : Bx W' b l :=
  ⟨Nat.lt_of_lt_of_le h.lt hs, fun j u hu => (World.cell?_of_block (a := ⟨b, j, none⟩) hk).trans (h.cell j u hu), fun j => (World.frozen?_of_block (a := ⟨b, j, none⟩) hk).trans (h.froz j)⟩
theorem Bx.below {W W' : World} {b : Nat} {l : List Value} (h : Bx W b l) (hb : Below W.heap.size W W') : Bx W' b l := h.of_block hb.size (hb.block b h.lt)
theorem Bx.belowB {B : Nat} {W W' : World} {b : Nat} {l : List Value} (h : Bx W b l) (hlt : b < B) (hb : Below B W W') : Bx W' b l := h.of_block hb.size (hb.block b hlt)
theorem Bx.kp {p : Nat} {W W' : World} {b : Nat} {l : List Value} (h : Bx W b l) (hne : b ≠ p) (hk : Kp p W W') : Bx W' b l := h.of_block hk.below.size (hk.keep b hne h.lt)
theorem Bx.grown {W W' : World} {b : Nat} {l : List Value} {row : Option Nat} (h : Bx W b l) (hg : W.grownBy W' row) (hne : row ≠ some b) : Bx W' b l := h.of_block hg.size (hg.block b h.lt (fun e => hne e.symm))
theorem Bx.setOther {W : World} {b : Nat} {l : List Value} (h : Bx W b l) {a : Addr} (hne : a.block ≠ b) (u : Value) : Bx (W.setCell a u) b l := h.of_block (by simp) (Below.heap_setCell _ _ _ _ (fun e => hne e.symm))
theorem Bx.setSame {W : World} {b : Nat} {l : List Value} (h : Bx W b l) (i : Nat) (u : Value) : Bx (W.setCell ⟨b, i, none⟩ u) b (l.set i u) := by
  refine ⟨by simpa using h.lt, fun j v hv => ?_, fun j => ?_⟩
  · by_cases e : i = j
    · subst e
      rw [List.getElem?_set_self' ] at hv
      cases hl : l[i]? with
      | none => rw [hl] at hv; cases hv
      | some x =>
        rw [hl] at hv
        have hv2 : u = v := by simpa using hv
        subst hv2
        have hc := h.cell i x hl
        have hlt := h.lt
        go_simp
    · rw [List.getElem?_set_ne e] at hv
      have hc := h.cell j v hv
      have hlt := h.lt
      have e2 : j ≠ i := fun e' => e e'.symm
      go_simp
  · have := h.froz j
    have hlt := h.lt
    go_simp
theorem Bx.made (W : World) (l : List Value) (t : TypeId) : Bx (W.alloc (.cells l.toArray t)) W.heap.size l := by
  refine ⟨by simp, fun j u hu => ?_, fun j => by go_simp⟩
  have h := heap_alloc_new W (.cells l.toArray t)
  simp only [World.cell?, h]
  simpa using hu
section
variable {P : Program} {ops : Array Oper} {p : Nat}
theorem wpK_append_at {o : Oper} {rest : List (Oper × Tag)} {a : Act} {w : World} {Q : Act → World → Prop} (hgd : o.guard = none) (s x : Operand) (t : TypeId)
    (ho : o.op = .call { callee := .builtin .append, args := #[s, x], argTypes := #[t, t] })
    (base : Nat) (e : TypeId) (i : TypeInfo) (z : Value) (size bytes : Nat) (ht : P.underlying t = some (.slice e)) (hi : P.info? e = some i) (hz : i.zero = some z)
    (hsize : i.size = size) (hby : i.bytes = bytes) (hzs : z.cells.size = size) (hsz : 0 < size)
    (v : Value) (n : Nat) (xs : List Value) (hs : a.eval s = v) (hown : w.ownsRow base e size v n xs)
    (ad : Addr) (m c : Nat) (news : List Value) (hx : a.eval x = .slice (some ad) m c) (hl : news.length = m * size) (hnews : ∀ j u, news[j]? = some u → w.cell? (ad.add j) = some u) (h1 : ∀ u ∈ news, u.oneCell' = true)
    (h63 : n + m ≤ maxLen) (hbytes : (n + m) * bytes ≤ 140737488355328) (hbase : base ≤ w.heap.size)
    (h : ∀ v' w', w'.ownsRow base e size v' (n + m) (xs ++ news) → w.grownBy w' v.ownBlock → (v'.ownBlock = v.ownBlock ∨ v'.ownBlock = some w.heap.size) → wpK P ops p Q rest (a.put o.dst v') w') : wpK P ops p Q ((o, .b) :: rest) a w := by
  refine wpK_b fun K hK => ?_
  have hw : Region.wanted o (yielded ops a.tmps) = true := by simp [Region.wanted, hgd]
  rw [if_pos hw]
  obtain ⟨v', w', hrun, h2, h3, _, h4⟩ := run_append_own_at (P := P) w base t o.type e i z size bytes ht hi hz hsize hby hzs hsz v n xs hown ad m c news hl hnews h1 h63 hbytes hbase
  unfold execOp
  simp only [ho, resolve, invoke, builtin, Sem.run_bind, Sem.run_pure, Result.andThen_ok, List.map_toArray, List.map_cons, List.map_nil, hs, hx, hrun]
  exact hK _ _ (h v' w' h2 h3 h4)
end
end Go.Proofs.Ytpnahobgmemdjaa
/- Walks: two assemblies are the same; the tile at a point; the join of two assemblies that are apart. -/






namespace Go.Proofs.Ytpnahobgmemdjaa
open Go.RowKit Go.Shelf
attribute [local go_sem] BelowBy.cell BelowBy.cell_drew stillUpon givesUpon

theorem l00MaxB_any (a b : Int) (w : World) : Calls Try.prog 42 #[.int .i64 a, .int .i64 b] w fun e w' => e = .returned (.int .i64 (max a b)) ∧ w = w' := by
  go_enter Try.func42, Try.ntmps42
  go_wp2
  · rename_i h
    go_ret
    exact ⟨ret_int (by omega), rfl⟩
  · go_ret
    exact ⟨ret_int (by omega), rfl⟩
set_option maxRecDepth 100000 in
set_option maxHeartbeats 1000000 in
theorem l03Same_any {pa pb : Nat} {xs : List Pl} {w : World} (ha : AsmAt w pa 0 xs) (hb : AsmAt w pb 0 xs) (hn : xs.length ≤ 1000000) :
    Calls Try.prog 36 #[.pointer (some ⟨pa, 0, none⟩), .pointer (some ⟨pb, 0, none⟩)] w fun e w' => e = .returned (.bool true) ∧ Below w.heap.size w w' := by
  obtain ⟨la, A, n, c, a1, a2⟩ := ha
  obtain ⟨lb, B, n2, c2, b1, b2⟩ := hb
  have hl := a2.len
  obtain rfl : n = n2 := by have := b2.len; omega
  have hH := Lib.hid a2
  have hH2 := Lib.hid b2
  have hlH := Lib.hid hl
  have hn6 : n ≤ 1000000 := by omega
  clear a2 b2 hl hn
  go_enter Try.func36, Try.ntmps36
  go_wp2
  refine wp_region_ord [(0, .q), (1, .q), (2, .q), (3, .q), (4, .q), (5, .q), (6, .q), (7, .q), (8, .q), (9, .q), (10, .q)] (by kernel_rfl) (by kernel_rfl) ?_
  simp only [pick, List.filterMap_cons, List.filterMap_nil, List.getElem?_toArray, List.getElem?_cons_zero, List.getElem?_cons_succ, Option.map_some]
  repeat (first
    | ((with_reducible refine wpD_p (fun K hK => ?_)); go_simp; refine hK _ ?_; clear hK K)
    | ((with_reducible refine wpD_q (fun K hK => ?_)); go_simp; (first | refine hK _ ?_ | (go_bits; refine hK _ ?_) | (go_bits; go_simp; refine hK _ ?_)); clear hK K)
    | ((with_reducible refine wpD_g (fun K hK => ?_)); go_simp; refine hK _ _ ?_; clear hK K)
    | ((with_reducible refine wpD_g (fun K hK => ?_)); go_simp; refine ⟨Grew.of_alloc _, hK _ _ ?_⟩; clear hK K))
  with_reducible refine wpD_nil ?_
  go_wp2
  go_loopg [5] n (fun g i wr => ∃ j : Nat, j + g = n ∧ i = .int .i64 (j : Int) ∧ Hid (Below w.heap.size w wr))
  case atStart => exact ⟨0, by omega, rfl, Lib.hid (bl_dr (bl_refl _))⟩
  case round =>
    obtain ⟨j, hj, rfl, hbw⟩ := hrel
    have hszl := hbw.out.size
    have a1 := (hbw.out.cell (p := ⟨pa, 0, none⟩) la).trans a1
    have b1 := (hbw.out.cell (p := ⟨pb, 0, none⟩) lb).trans b1
    have la := Nat.lt_of_lt_of_le la hszl
    have lb := Nat.lt_of_lt_of_le lb hszl
    by_cases hjn : j < n
    · have h := hH.out.below RPl.stable hbw.out
      have h2 := hH2.out.below RPl.stable hbw.out
      obtain ⟨e, he⟩ := h.get hjn
      obtain ⟨bf, of_, hFe, hbf, hcf⟩ := h.ptr (by omega)
      obtain ⟨bg, og, hGe, hbg, hcg⟩ := h2.ptr (by omega)
      obtain ⟨d0, d1, d2⟩ := hcf j e he
      obtain ⟨f0, f1, f2⟩ := hcg j e he
      subst hFe
      subst hGe
      have hjI : (j : Int) < (n : Int) := by omega
      have hj0 : (0 : Int) ≤ (j : Int) := by omega
      clear hcf hcg h h2
      go_wp2
      refine wp_region_ord [(0, .q), (1, .q), (2, .q), (3, .q), (4, .q), (5, .q), (6, .q), (7, .q), (8, .q), (9, .q), (10, .q), (11, .q), (12, .q), (13, .q), (14, .q)] (by kernel_rfl) (by kernel_rfl) ?_
      simp only [pick, List.filterMap_cons, List.filterMap_nil, List.getElem?_toArray, List.getElem?_cons_zero, List.getElem?_cons_succ, Option.map_some]
      repeat (first
        | ((with_reducible refine wpD_p (fun K hK => ?_)); go_simp; refine hK _ ?_; clear hK K)
        | ((with_reducible refine wpD_q (fun K hK => ?_)); go_simp; (first | refine hK _ ?_ | (go_bits; refine hK _ ?_) | (go_bits; go_simp; refine hK _ ?_)); clear hK K)
        | ((with_reducible refine wpD_g (fun K hK => ?_)); go_simp; refine hK _ _ ?_; clear hK K)
        | ((with_reducible refine wpD_g (fun K hK => ?_)); go_simp; refine ⟨Grew.of_alloc _, hK _ _ ?_⟩; clear hK K))
      with_reducible refine wpD_nil ?_
      go_wp2
      go_roundg (n - (j + 1))
      case measure => omega
      case rel => exact ⟨j + 1, by omega, by go_num, Lib.hid (bl_dr hbw.out)⟩
    · obtain rfl : j = n := by omega
      have hjE : ¬ (j : Int) < (j : Int) := by omega
      go_wp2
      go_ret
      exact ⟨rfl, hbw.out⟩
theorem SameAssembly_any {A B : Option Addr} {n n2 c c2 : Nat} {xs : List Pl} {w : World} (h : RdSl 3 RPl w A n xs) (h2 : RdSl 3 RPl w B n2 xs) (hn : xs.length ≤ 1000000) :
    Calls Try.prog 9 #[.agg #[.slice A n c], .agg #[.slice B n2 c2]] w fun e w' => e = .returned (.bool true) ∧ Below w.heap.size w w' := by
  have hH := Lib.hid h
  have hH2 := Lib.hid h2
  clear h h2
  go_enter Try.func9, Try.ntmps9
  go_wp2_with fail
  have jb : Below w.heap.size w ((w.alloc (Obj.cells #[.slice A n c] 26)).alloc (Obj.cells #[.slice B n2 c2] 26)) := bl_al (bl_al (bl_refl _) _) _
  refine (l03Same_any (pa := w.heap.size) (pb := w.heap.size + 1) (xs := xs) ⟨by simp; omega, A, n, c, by go_simp, hH.out.below RPl.stable jb⟩ ⟨by simp, B, n2, c2, by go_simp, hH2.out.below RPl.stable jb⟩ hn).mono ?_
  rintro e w1 ⟨rfl, hb1⟩
  have hbH := Lib.hid (jb.trans (hb1.mono (by simp; omega)))
  clear hb1 jb
  go_wp2
  go_ret
  exact ⟨rfl, hbH.out⟩
set_option maxRecDepth 100000 in
set_option maxHeartbeats 1000000 in
theorem TileAt_any {A : Option Addr} {n c : Nat} {xs : List Pl} {x y : Int} {v : Bool} {w : World} (h : RdSl 3 RPl w A n xs) (hf : hasFormB xs = true) (hv : decide (0 ≤ atI xs x y) = v) :
    Calls Try.prog 12 #[.agg #[.slice A n c], .agg #[.int .i64 x, .int .i64 y]] w fun e w' => (∃ k : Int, e = .returned (.tuple #[.int .i64 k, .bool v])) ∧ Below w.heap.size w w' := by
  have hH := Lib.hid h
  have hl5 := form_len hf
  have hVH := Lib.hid (form_valid hf)
  have hfH := Lib.hid hf
  obtain ⟨r, hr⟩ : ∃ r, atI xs x y = r := ⟨_, rfl⟩
  rw [hr] at hv
  have hrH := Lib.hid hr
  clear h hf hr
  go_enter Try.func12, Try.ntmps12
  go_wp2_with fail
  have jb : Below w.heap.size w ((w.alloc (Obj.cells #[.slice A n c] 26)).alloc (Obj.cells #[.int .i64 x, .int .i64 y] 34)) := bl_al (bl_al (bl_refl _) _) _
  have hA : AsmAt ((w.alloc (Obj.cells #[.slice A n c] 26)).alloc (Obj.cells #[.int .i64 x, .int .i64 y] 34)) w.heap.size 0 xs := ⟨by simp; omega, A, n, c, by go_simp, hH.out.below RPl.stable jb⟩
  refine (l03Form_any w.heap.size xs _ hA (by omega)).mono ?_
  rw [hfH.out]
  rintro e w1 ⟨rfl, hb1⟩
  have k0 := (hb1.cell (p := ⟨w.heap.size + 1, 0, none⟩) (by simp)).trans (show _ = some (.int .i64 x) by go_simp)
  have k1 := (hb1.cell (p := ⟨w.heap.size + 1, 1, none⟩) (by simp)).trans (show _ = some (.int .i64 y) by go_simp)
  have k2 : w.heap.size + 1 < w1.heap.size := by have := hb1.size; simp at this; omega
  have hA1 := Lib.hid (AsmAt.below hA hb1)
  have hbH := Lib.hid (jb.trans (hb1.mono (by simp; omega)))
  clear hb1 jb hA
  go_wp2_with fail
  refine (l03At_any w.heap.size [] noTiles xs x y r _ hA1.out hVH.out hrH.out).mono ?_
  rintro e w2 ⟨rfl, hb2⟩
  have hbH2 := Lib.hid (hbH.out.trans (hb2.mono (by omega)))
  clear hb2 hbH hA1
  go_wp2_with fail
  refine (l00MaxB_any r 0 _).mono ?_
  rintro e _ ⟨rfl, rfl⟩
  cases v
  · have hn0 : ¬ (0 : Int) ≤ r := of_decide_eq_false hv
    clear hv
    go_wp2
    refine bodyPost_ret (v := .tuple #[.int .i64 (max r 0), .bool false]) (by simp only [results, Try.results12]; go_simp) rfl ?_
    exact ⟨⟨_, rfl⟩, hbH2.out⟩
  · have hn0 : (0 : Int) ≤ r := of_decide_eq_true hv
    clear hv
    go_wp2
    refine bodyPost_ret (v := .tuple #[.int .i64 (max r 0), .bool true]) (by simp only [results, Try.results12]; go_simp) rfl ?_
    exact ⟨⟨_, rfl⟩, hbH2.out⟩
def JoinR (w : World) (Z : List Pl) (N : Nat) (e : Ending) (w' : World) : Prop :=
  ∃ B c', e = .returned (.tuple #[.agg #[.slice B N c'], .int .i64 0]) ∧ w'.ownsRow w.heap.size 38 3 (.slice B N c') N (plCells Z) ∧ Below w.heap.size w w'
set_option maxRecDepth 100000 in
set_option maxHeartbeats 2000000 in
theorem JoinAssemblies_any {A C : Option Addr} {n ca m cb N : Nat} {xs ms Z : List Pl} {w : World} (hA : RdSl 3 RPl w A n xs) (hC : RdSl 3 RPl w C m ms) (hf : hasFormB xs = true) (hf2 : hasFormB ms = true) (h2 : Two [] noTiles xs ms) (h0 : 0 < m) (hZ : sortPl (xs ++ ms) = Z) (hN : Z.length = N) (hl : N ≤ 500) :
    Calls Try.prog 10 #[.agg #[.slice A n ca], .agg #[.slice C m cb]] w (JoinR w Z N) := by
  have hlA := hA.len
  have hlC := hC.len
  have hn5 := form_len hf
  have hm5 := form_len hf2
  have hAH := Lib.hid hA
  have hCH := Lib.hid hC
  have hfH := Lib.hid hf
  have hfH2 := Lib.hid hf2
  have h2H := Lib.hid h2
  have hZH := Lib.hid hZ
  have hNH := Lib.hid hN
  clear hA hC hf hf2 h2 hZ hN
  go_enter Try.func10, Try.ntmps10
  go_wp2_with fail
  have bA := Lib.hid (((Bx.made w [.slice A n ca] 26).below (bl_al (bl_refl _) (Obj.cells #[.slice C m cb] 26))).below (bl_al (bl_refl _) (Obj.cells #[.slice none 0 0] 26)))
  have bC : Hid (Bx (((w.alloc (Obj.cells #[.slice A n ca] 26)).alloc (Obj.cells #[.slice C m cb] 26)).alloc (Obj.cells #[.slice none 0 0] 26)) (w.heap.size + 1) [.slice C m cb]) := Lib.hid (by
    have := (Bx.made (w.alloc (Obj.cells #[.slice A n ca] 26)) [.slice C m cb] 26).below (bl_al (bl_refl _) (Obj.cells #[.slice none 0 0] 26))
    rw [World.size_alloc] at this
    exact this)
  have bR : Hid (Bx (((w.alloc (Obj.cells #[.slice A n ca] 26)).alloc (Obj.cells #[.slice C m cb] 26)).alloc (Obj.cells #[.slice none 0 0] 26)) (w.heap.size + 1 + 1) [.slice none 0 0]) := Lib.hid (by
    have := Bx.made ((w.alloc (Obj.cells #[.slice A n ca] 26)).alloc (Obj.cells #[.slice C m cb] 26)) [.slice none 0 0] 26
    rw [World.size_alloc, World.size_alloc] at this
    exact this)
  have hbw : Hid (Below w.heap.size w (((w.alloc (Obj.cells #[.slice A n ca] 26)).alloc (Obj.cells #[.slice C m cb] 26)).alloc (Obj.cells #[.slice none 0 0] 26))) := Lib.hid (bl_al (bl_al (bl_al (bl_refl _) _) _) _)
  refine (hasForm_at (hAH.out.below RPl.stable hbw.out) (by omega) hfH.out).mono ?_
  rintro e w1 ⟨rfl, hb⟩
  replace bA := Lib.hid (bA.out.below hb)
  replace bC := Lib.hid (bC.out.below hb)
  replace bR := Lib.hid (bR.out.below hb)
  replace hbw := Lib.hid (hbw.out.trans (hb.mono hbw.out.size))
  clear hb
  have y0 := bA.out.cell 0 _ rfl
  have y1 := bC.out.cell 0 _ rfl
  have y2 := bR.out.cell 0 _ rfl
  have f2 := bR.out.froz 0
  have l0 := bA.out.lt
  have l1 := bC.out.lt
  have l2 := bR.out.lt
  go_wp2_with fail
  refine (hasForm_at (hCH.out.below RPl.stable hbw.out) (by omega) hfH2.out).mono ?_
  rintro e w2 ⟨rfl, hb⟩
  replace bA := Lib.hid (bA.out.below hb)
  replace bC := Lib.hid (bC.out.below hb)
  replace bR := Lib.hid (bR.out.below hb)
  replace hbw := Lib.hid (hbw.out.trans (hb.mono hbw.out.size))
  clear hb y0 y1 y2 f2 l0 l1 l2
  have y0 := bA.out.cell 0 _ rfl
  have y1 := bC.out.cell 0 _ rfl
  have y2 := bR.out.cell 0 _ rfl
  have f2 := bR.out.froz 0
  have l0 := bA.out.lt
  have l1 := bC.out.lt
  have l2 := bR.out.lt
  go_wp2_with fail
  refine (joined_any A C n ca m cb [] noTiles xs ms _ (hAH.out.below RPl.stable hbw.out) (hCH.out.below RPl.stable hbw.out) h2H.out (by omega) h0).mono ?_
  rintro e w3 ⟨B, c', rfl, hown, hb⟩
  rw [hZH.out, hNH.out] at hown ⊢
  replace bA := Lib.hid (bA.out.below hb)
  replace bC := Lib.hid (bC.out.below hb)
  replace bR := Lib.hid (bR.out.below hb)
  have hsz2 := hbw.out.size
  have hl22 := l2
  replace hbw := Lib.hid (hbw.out.trans (hb.mono hbw.out.size))
  have hownH := Lib.hid hown
  have hlo := hbw.out.size
  clear hb hown y0 y1 y2 f2 l0 l1 l2
  have y0 := bA.out.cell 0 _ rfl
  have y1 := bC.out.cell 0 _ rfl
  have y2 := bR.out.cell 0 _ rfl
  have f2 := bR.out.froz 0
  have l0 := bA.out.lt
  have l1 := bC.out.lt
  have l2 := bR.out.lt
  have hNI : ¬ (500 : Int) < (N : Int) := by omega
  go_wp2
  refine bodyPost_ret (v := .tuple #[.agg #[.slice B N c'], .int .i64 0]) (by simp only [results, Try.results10]; go_simp) rfl ?_
  exact ⟨B, c', rfl, ownsRow_baseQ ((ownsRow_setCell_below hownH.out (a := ⟨w.heap.size + 1 + 1, 0, none⟩) hl22 _).alloc _) hsz2, (hbw.out.setCell (p := ⟨w.heap.size + 1 + 1, 0, none⟩) (by simp only; omega) _).alloc (by simp; omega) _⟩
end Go.Proofs.Ytpnahobgmemdjaa
/- Plain: the holes of a shape. -/


namespace Go.Proofs.Ytpnahobgmemdjaa
open Go.RowKit
theorem ptA_of {ps : List Pt} {k : Nat} {e : Pt} (h : ps[k]? = some e) : ptA ps k = e := by unfold ptA; rw [h]; rfl
/-- the box holds the points, and each side of it has one -/
theorem bxN_in (ps : List Pt) : ∀ (j k : Nat), k < j ∨ k = 0 → ((bxN ps j).lx ≤ (ptA ps k).x ∧ (ptA ps k).x ≤ (bxN ps j).hx) ∧ (bxN ps j).ly ≤ (ptA ps k).y ∧ (ptA ps k).y ≤ (bxN ps j).hy
  | 0, k, h => by
    obtain rfl : k = 0 := by omega
    simp [bxN]
  | j + 1, k, h => by
    have ih := bxN_in ps j
    simp only [bxN]
    rcases Nat.lt_or_ge k j with h1 | h1
    · have := ih k (.inl h1)
      unfold mn mx
      refine ⟨⟨?_, ?_⟩, ?_, ?_⟩ <;> (split <;> omega)
    · rcases h with h | rfl
      · obtain rfl : k = j := by omega
        unfold mn mx
        refine ⟨⟨?_, ?_⟩, ?_, ?_⟩ <;> (split <;> omega)
      · have := ih 0 (.inr rfl)
        unfold mn mx
        refine ⟨⟨?_, ?_⟩, ?_, ?_⟩ <;> (split <;> omega)
theorem bxN_at (ps : List Pt) : ∀ (j : Nat), (∃ k, (k < j ∨ k = 0) ∧ (ptA ps k).x = (bxN ps j).lx) ∧ (∃ k, (k < j ∨ k = 0) ∧ (ptA ps k).x = (bxN ps j).hx) ∧ (∃ k, (k < j ∨ k = 0) ∧ (ptA ps k).y = (bxN ps j).ly) ∧ (∃ k, (k < j ∨ k = 0) ∧ (ptA ps k).y = (bxN ps j).hy)
  | 0 => ⟨⟨0, .inr rfl, rfl⟩, ⟨0, .inr rfl, rfl⟩, ⟨0, .inr rfl, rfl⟩, ⟨0, .inr rfl, rfl⟩⟩
  | j + 1 => by
    obtain ⟨⟨a, a1, a2⟩, ⟨b, b1, b2⟩, ⟨c, c1, c2⟩, ⟨d, d1, d2⟩⟩ := bxN_at ps j
    simp only [bxN]
    unfold mn mx
    refine ⟨?_, ?_, ?_, ?_⟩
    · split
      · exact ⟨j, .inl (by omega), rfl⟩
      · exact ⟨a, by omega, a2⟩
    · split
      · exact ⟨j, .inl (by omega), rfl⟩
      · exact ⟨b, by omega, b2⟩
    · split
      · exact ⟨j, .inl (by omega), rfl⟩
      · exact ⟨c, by omega, c2⟩
    · split
      · exact ⟨j, .inl (by omega), rfl⟩
      · exact ⟨d, by omega, d2⟩
/-- the least rectangle of a shape -/
def boxB (ps : List Pt) : Bnd := bxN ps ps.length
theorem boxB_in {ps : List Pt} {p : Pt} (h : p ∈ ps) : ((boxB ps).lx ≤ p.x ∧ p.x ≤ (boxB ps).hx) ∧ (boxB ps).ly ≤ p.y ∧ p.y ≤ (boxB ps).hy := by
  obtain ⟨k, hk⟩ := List.mem_iff_getElem?.1 h
  have := bxN_in ps ps.length k (.inl (lt_of_get hk))
  rw [ptA_of hk] at this
  exact this
theorem boxB_rng {ps : List Pt} (hS : Shp ps) (hn : 0 < ps.length) : (-60 ≤ (boxB ps).lx ∧ (boxB ps).lx ≤ (boxB ps).hx ∧ (boxB ps).hx ≤ 60) ∧ (-60 ≤ (boxB ps).ly ∧ (boxB ps).ly ≤ (boxB ps).hy ∧ (boxB ps).hy ≤ 60) := by
  have hp : ∀ k, k < ps.length ∨ k = 0 → (-60 ≤ (ptA ps k).x ∧ (ptA ps k).x ≤ 60) ∧ (-60 ≤ (ptA ps k).y ∧ (ptA ps k).y ≤ 60) := fun k hk => by
    obtain ⟨e, he⟩ : ∃ e, ps[k]? = some e := ⟨_, List.getElem?_eq_getElem (by omega)⟩
    rw [ptA_of he]
    exact hS.pt k e he
  obtain ⟨⟨a, a1, a2⟩, ⟨b, b1, b2⟩, ⟨c, c1, c2⟩, ⟨d, d1, d2⟩⟩ := bxN_at ps ps.length
  have h1 := hp a a1
  have h2 := hp b b1
  have h3 := hp c c1
  have h4 := hp d d1
  have h5 := bxN_in ps ps.length 0 (.inr rfl)
  unfold boxB
  omega
def wdB (ps : List Pt) : Nat := ((boxB ps).hx + 1 - (boxB ps).lx).toNat
def htB (ps : List Pt) : Nat := ((boxB ps).hy + 1 - (boxB ps).ly).toNat
/-- all points of the rectangle -/
def rectB (ps : List Pt) : List Pt := rectP (boxB ps).lx (boxB ps).ly (wdB ps) (htB ps)
/-- those that are not in the shape -/
def freeB (ps : List Pt) : List Pt := (rectB ps).filter fun p => !decide (p ∈ ps)
/-- on the rectangle's edge -/
def edgeB (ps : List Pt) (p : Pt) : Bool := p.x == (boxB ps).lx || p.x == (boxB ps).hx || p.y == (boxB ps).ly || p.y == (boxB ps).hy
def holesB (ps : List Pt) : List (List Pt) := (partsP (freeB ps)).filter fun l => !(l.any (edgeB ps))
section
variable {ps : List Pt} (hS : Shp ps) (hn : 0 < ps.length)
include hS hn
theorem wdB_eq : (boxB ps).hx + 1 = (boxB ps).lx + (wdB ps : Int) ∧ (boxB ps).hy + 1 = (boxB ps).ly + (htB ps : Int) ∧ 1 ≤ wdB ps ∧ wdB ps ≤ 121 ∧ 1 ≤ htB ps ∧ htB ps ≤ 121 := by
  have := boxB_rng hS hn
  unfold wdB htB
  omega
theorem rectB_mem {p : Pt} : p ∈ rectB ps ↔ ((boxB ps).lx ≤ p.x ∧ p.x ≤ (boxB ps).hx) ∧ (boxB ps).ly ≤ p.y ∧ p.y ≤ (boxB ps).hy := by
  have := wdB_eq hS hn
  unfold rectB
  rw [rectP_mem]
  omega
theorem rectB_len : (rectB ps).length = htB ps * wdB ps ∧ (rectB ps).length ≤ 14641 ∧ 0 < (rectB ps).length := by
  obtain ⟨_, _, h1, h2, h3, h4⟩ := wdB_eq hS hn
  have h5 : (rectB ps).length = htB ps * wdB ps := rectP_len _ _ _ _
  exact ⟨h5, by rw [h5]; exact Nat.le_trans (Nat.mul_le_mul h4 h2) (by decide), by rw [h5]; exact Nat.mul_pos h3 h1⟩
theorem freeB_shp : Shp (freeB ps) := by
  refine Shp.of_sorted ((rectP_sorted _ _ _ _).filter _) (fun p hp => ?_)
  have := boxB_rng hS hn
  have h2 := (rectB_mem hS hn).1 (List.mem_filter.1 hp).1
  omega
theorem freeB_len : (freeB ps).length ≤ 14641 := Nat.le_trans (List.length_filter_le _ _) (rectB_len hS hn).2.1
/-- the reference's test of a part -/
theorem edge_box {l : List Pt} (hl : l ∈ partsP (freeB ps)) : (!(l.any (edgeB ps))) = decide (((boxB ps).lx < (bxN l l.length).lx ∧ (boxB ps).ly < (bxN l l.length).ly) ∧ (bxN l l.length).hx < (boxB ps).hx ∧ (bxN l l.length).hy < (boxB ps).hy) := by
  have hpos := partsP_pos hl
  have hmem : ∀ k, k < l.length ∨ k = 0 → ((boxB ps).lx ≤ (ptA l k).x ∧ (ptA l k).x ≤ (boxB ps).hx) ∧ (boxB ps).ly ≤ (ptA l k).y ∧ (ptA l k).y ≤ (boxB ps).hy := fun k hk => by
    obtain ⟨e, he⟩ : ∃ e, l[k]? = some e := ⟨_, List.getElem?_eq_getElem (by omega)⟩
    rw [ptA_of he]
    exact (rectB_mem hS hn).1 (List.mem_filter.1 ((partsP_mem hl).1 e (List.mem_of_getElem? he))).1
  obtain ⟨⟨a, a1, a2⟩, ⟨b, b1, b2⟩, ⟨c, c1, c2⟩, ⟨d, d1, d2⟩⟩ := bxN_at l l.length
  have hin := bxN_in l l.length
  cases hany : l.any (edgeB ps)
  · rw [List.any_eq_false] at hany
    have hne : ∀ k, k < l.length ∨ k = 0 → (ptA l k).x ≠ (boxB ps).lx ∧ (ptA l k).x ≠ (boxB ps).hx ∧ (ptA l k).y ≠ (boxB ps).ly ∧ (ptA l k).y ≠ (boxB ps).hy := fun k hk => by
      obtain ⟨e, he⟩ : ∃ e, l[k]? = some e := ⟨_, List.getElem?_eq_getElem (by omega)⟩
      have := hany e (List.mem_of_getElem? he)
      unfold edgeB at this
      simp at this
      rw [ptA_of he]
      exact ⟨this.1.1.1, this.1.1.2, this.1.2, this.2⟩
    have n1 := hne a a1
    have n2 := hne b b1
    have n3 := hne c c1
    have n4 := hne d d1
    have m1 := hmem a a1
    have m2 := hmem b b1
    have m3 := hmem c c1
    have m4 := hmem d d1
    exact (decide_eq_true (by omega)).symm
  · rw [List.any_eq_true] at hany
    obtain ⟨e, he, hee⟩ := hany
    obtain ⟨k, hk⟩ := List.mem_iff_getElem?.1 he
    have h1 := hin k (.inl (lt_of_get hk))
    rw [ptA_of hk] at h1
    unfold edgeB at hee
    simp only [Bool.or_eq_true, beq_iff_eq] at hee
    exact (decide_eq_false (by omega)).symm
end
theorem holesB_few {ps : List Pt} (hS : Shp ps) (hn : 0 < ps.length) : (holesB ps).length ≤ 14641 ∧ ∀ l ∈ holesB ps, l.length ≤ 14641 := by
  have h1 := freeB_len hS hn
  refine ⟨Nat.le_trans (List.length_filter_le _ _) (Nat.le_trans (partsP_len _) h1), fun l hl => ?_⟩
  exact Nat.le_trans (partsP_mem (List.mem_filter.1 hl).1).2 h1
end Go.Proofs.Ytpnahobgmemdjaa
