/- Walks: the reference's maker of a set by names. -/
import Derived.Test.YtpnahobgmemdjaaGreatDoorMm2
import Derived.Test.YtpnahobgmemdjaaGreatDoorW5
namespace Go.Proofs.YtpnahobgmemdjaaGreatDoor
open Go.RowKit Go.Shelf
set_option linter.unusedSimpArgs false
set_option linter.unusedVariables false
attribute [local go_sem] BelowBy.cell BelowBy.cell_drew stillUpon givesUpon

set_option maxHeartbeats 1000000 in
theorem lGlueN_any {op : Nat} (p : Nat) (gs : List Gl) (ts : List Ti) (s : ByteArray) (w : World) (h : SetAt w p op gs ts) (hm : gs.length ≤ 281474976710656) :
    Calls Tryz.prog 48 #[.pointer (some ⟨p, op, none⟩), .string s] w fun e w' => e = .returned (.int .i64 (numG gs s : Int)) ∧ w = w' := by
  obtain ⟨hlt, ⟨A, n, c, h1, h2⟩, ⟨B, m, d, h3, h4⟩⟩ := h
  have hl := h2.len
  have h2H := Lib.hid h2
  clear h3 h4 h2
  go_enter Tryz.func48, Tryz.ntmps48
  go_wp2
  go_loopg [5] n (fun r x wr => ∃ k : Nat, k + r = n ∧ x = .int .i64 (k : Int) ∧ Hid (∀ j, j < k → ∀ e, gs[j]? = some e → e.name ≠ s) ∧ w = wr)
  case atStart => exact ⟨0, by omega, rfl, Lib.hid (fun j hj => by omega), rfl⟩
  case round =>
    obtain ⟨k, hk, rfl, hok, rfl⟩ := hrel
    by_cases hkn : k < n
    · obtain ⟨b, o, rfl, hbl, hc⟩ := h2H.out.ptr (by omega)
      obtain ⟨e, he⟩ := h2H.out.get hkn
      obtain ⟨c0, c1⟩ := hc k e he
      have heH := Lib.hid he
      clear hc he
      by_cases hn : e.name = s
      · have hn'' : (e.name.toList == s.toList) = true := (Lib.bytes_beq_iff _ _).2 hn
        have hr := Lib.hid (numG_at heH.out hn hok.out)
        clear hn
        go_wp2
        go_ret
        exact ⟨ret_int (by rw [hr.out]; simp), rfl⟩
      · have hn'' : (e.name.toList == s.toList) = false := (Lib.bytes_beq_false_iff _ _).2 hn
        have hnH := Lib.hid hn
        clear hn
        go_wp2
        go_roundg (n - (k + 1))
        case measure => omega
        case rel => exact ⟨k + 1, by omega, by go_num, Lib.hid (fun j hj e' he' => by
            rcases Nat.lt_succ_iff_lt_or_eq.1 hj with hj | rfl
            · exact hok.out j hj e' he'
            · rw [← Option.some.inj (heH.out.symm.trans he')]
              exact hnH.out), rfl⟩
    · obtain rfl : k = n := by omega
      have hr := Lib.hid (numG_none (gs := gs) (s := s) (fun j hj => hok.out j (by omega)))
      go_wp2
      go_ret
      exact ⟨ret_int (by rw [hr.out]; rfl), rfl⟩
set_option maxHeartbeats 1000000 in
theorem lTileN_any {op : Nat} (p : Nat) (gs : List Gl) (ts : List Ti) (s : ByteArray) (w : World) (h : SetAt w p op gs ts) (hm : ts.length ≤ 281474976710656) (hf : ∀ t ∈ ts, t.name ≠ s) :
    Calls Tryz.prog 50 #[.pointer (some ⟨p, op, none⟩), .string s] w fun e w' => e = .returned (.int .i64 (-1)) ∧ w = w' := by
  obtain ⟨hlt, ⟨A, n, c, h1, h2⟩, ⟨B, m, d, h3, h4⟩⟩ := h
  have hl := h4.len
  have h4H := Lib.hid h4
  have hfH := Lib.hid hf
  clear h1 h2 h4 hf
  go_enter Tryz.func50, Tryz.ntmps50
  go_wp2
  go_loopg [5] m (fun r x wr => ∃ k : Nat, k + r = m ∧ x = .int .i64 (k : Int) ∧ w = wr)
  case atStart => exact ⟨0, by omega, rfl, rfl⟩
  case round =>
    obtain ⟨k, hk, rfl, rfl⟩ := hrel
    by_cases hkn : k < m
    · obtain ⟨b, o, rfl, hbl, hc⟩ := h4H.out.ptr (by omega)
      obtain ⟨e, he⟩ := h4H.out.get hkn
      obtain ⟨c0, -⟩ := hc k e he
      have hn := hfH.out e (List.mem_of_getElem? he)
      have hn'' : (e.name.toList == s.toList) = false := (Lib.bytes_beq_false_iff _ _).2 hn
      clear hc he hn
      go_wp2
      go_roundg (m - (k + 1))
      case measure => omega
      case rel => exact ⟨k + 1, by omega, by go_num, rfl⟩
    · obtain rfl : k = m := by omega
      go_wp2
      go_ret
      exact ⟨rfl, rfl⟩
/-- The reference's maker: its box b, its rows behind the box. -/
structure SkAt (w : World) (b : Nat) (A1 : Option Addr) (c1 : Nat) (B2 : Option Addr) (c2 : Nat) (us : List Value) (st : List Gl × List Ti) (X : Nat → Prop) : Prop where
  bx : Bx w b [.slice A1 st.1.length c1, .slice B2 st.2.length c2]
  ty : ∃ M f, w.rowIs b 60 M f
  gl : w.ownsRow (b + 1) 69 2 (.slice A1 st.1.length c1) st.1.length (flatC encGl st.1)
  ti : OwnT w (b + 1) 73 2 (.slice B2 st.2.length c2) us st.2
  av : ∀ g, X g → (Value.slice A1 st.1.length c1).ownBlock ≠ some g ∧ (Value.slice B2 st.2.length c2).ownBlock ≠ some g ∧ ∀ (k : Nat) (u : Value), us[k]? = some u → u.ownBlock ≠ some g
def SkX (w : World) (b : Nat) (st : List Gl × List Ti) (X : Nat → Prop) : Prop := ∃ A1 c1 B2 c2 us, SkAt w b A1 c1 B2 c2 us st X
def Sk (w : World) (b : Nat) (st : List Gl × List Ti) : Prop := SkX w b st (fun _ => False)
def SkTs : List TypeId := [60, 69, 73]
section
variable {w w' : World} {b : Nat} {A1 B2 : Option Addr} {c1 c2 : Nat} {us : List Value} {st : List Gl × List Ti} {X Y : Nat → Prop}
theorem SkAt.below (h : SkAt w b A1 c1 B2 c2 us st X) (hb : Below w.heap.size w w') : SkAt w' b A1 c1 B2 c2 us st X := by
  obtain ⟨M, f, hr⟩ := h.ty
  exact ⟨h.bx.below hb, ⟨M, f, hr.of_block (hb.block b hr.lt)⟩, ownsRow_below h.gl hb, h.ti.below hb, h.av⟩
theorem SkX.below (h : SkX w b st X) (hb : Below w.heap.size w w') : SkX w' b st X := by
  obtain ⟨A1, c1, B2, c2, us, h⟩ := h
  exact ⟨A1, c1, B2, c2, us, h.below hb⟩
theorem Sk.below (h : Sk w b st) (hb : Below w.heap.size w w') : Sk w' b st := SkX.below h hb
theorem SkX.lt (h : SkX w b st X) : b < w.heap.size := by
  obtain ⟨A1, c1, B2, c2, us, h⟩ := h
  exact h.bx.lt
theorem Sk.lt (h : Sk w b st) : b < w.heap.size := SkX.lt h
theorem SkX.clear_ (h : SkX w b st X) (hY : ∀ g, Y g → X g ∨ w.heap.size ≤ g) : SkX w b st Y := by
  obtain ⟨A1, c1, B2, c2, us, h⟩ := h
  refine ⟨A1, c1, B2, c2, us, h.bx, h.ty, h.gl, h.ti, fun g hg => ?_⟩
  rcases hY g hg with hx | hx
  · exact h.av g hx
  · exact ⟨fun e => by have := (h.gl.lt _ e).2; omega, fun e => by have := (h.ti.lt _ e).2; omega, fun k u hu e => by have := (h.ti.ltIn hu _ e).2; omega⟩
theorem SkX.grown {row : Option Nat} (h : SkX w b st X) (hg : w.grownBy w' row) (hrow : ∀ g, row = some g → X g ∧ b < g) : SkX w' b st X := by
  obtain ⟨A1, c1, B2, c2, us, h⟩ := h
  have hne : row ≠ some b := fun e => by have := (hrow _ e).2; omega
  obtain ⟨M, f, hr⟩ := h.ty
  refine ⟨A1, c1, B2, c2, us, h.bx.grown hg hne, ⟨M, f, hr.of_block (hg.block b hr.lt (fun e => hne e.symm))⟩, h.gl.kept hg ?_, h.ti.kept hg (fun g e => ⟨(h.av g (hrow g e).1).2.1, fun k u hu => (h.av g (hrow g e).1).2.2 k u hu⟩), h.av⟩
  cases hb : (Value.slice A1 st.1.length c1).ownBlock with
  | none => exact .inl rfl
  | some g => exact .inr fun e => (h.av g (hrow g e.symm).1).1 hb
end
theorem SkAt.set {w : World} {b : Nat} {A1 B2 : Option Addr} {c1 c2 : Nat} {us : List Value} {st : List Gl × List Ti} {X : Nat → Prop} (h : SkAt w b A1 c1 B2 c2 us st X) : SetAt w b 0 st.1 st.2 := by
  refine ⟨h.bx.lt, ⟨A1, _, c1, h.bx.cell 0 _ rfl, ?_⟩, ⟨B2, _, c2, h.bx.cell 1 _ rfl, ?_⟩⟩
  · obtain ⟨A', c', e, h1⟩ := rdGl_of_flat h.gl
    injection e with e1 e2 e3
    rw [e1]; exact h1
  · obtain ⟨A', c', e, h1⟩ := h.ti.rd
    injection e with e1 e2 e3
    rw [e1]; exact h1
theorem SkX.set {w : World} {b : Nat} {st : List Gl × List Ti} {X : Nat → Prop} (h : SkX w b st X) : SetAt w b 0 st.1 st.2 := by
  obtain ⟨A1, c1, B2, c2, us, h⟩ := h
  exact h.set
theorem Sk.made (w : World) : Sk (w.alloc (.cells #[.slice none 0 0, .slice none 0 0] 60)) w.heap.size ([], []) :=
  ⟨Option.none, 0, Option.none, 0, [], Bx.made w [.slice none 0 0, .slice none 0 0] 60, rowIs_made w [.slice none 0 0, .slice none 0 0] _, World.ownsRow_nil _ _ _ _, OwnT.nil _ _ _ _, fun g hg => hg.elim⟩
theorem Sk.set {w : World} {b : Nat} {st : List Gl × List Ti} (h : Sk w b st) : SetAt w b 0 st.1 st.2 := SkX.set h
set_option maxRecDepth 100000 in
theorem side_any (X : Nat → Prop) (b : Nat) (st : List Gl × List Ti) (nm : ByteArray) (w : World) (h : SkX w b st X) (hl : st.1.length ≤ 1000) :
    Calls Tryz.prog 51 #[.pointer (some ⟨b, 0, none⟩), .string nm] w fun e w' => e = .returned (.int .i64 (numG st.1 nm : Int)) ∧ w = w' := by
  have hH := Lib.hid h
  clear h
  go_enter Tryz.func51, Tryz.ntmps51
  go_wp2_with (go_at_call 48; refine (lGlueN_any b st.1 st.2 nm _ hH.out.set (by omega)).mono ?_; rintro e _ ⟨rfl, rfl⟩)
  go_ret
  exact ⟨rfl, rfl⟩
theorem side_at {X : Nat → Prop} {b : Nat} {gs : List Gl} {ts : List Ti} {nm : ByteArray} {q : Int} {w : World} (h : SkX w b (gs, ts) X) (hl : gs.length ≤ 1000) (hq : (numG gs nm : Int) = q) :
    Calls Tryz.prog 51 #[.pointer (some ⟨b, 0, none⟩), .string nm] w fun e w' => e = .returned (.int .i64 q) ∧ w = w' := hq ▸ side_any X b (gs, ts) nm w h hl
set_option maxRecDepth 100000 in
set_option maxHeartbeats 4000000 in
theorem sglueX_any (X : Nat → Prop) (b : Nat) (st : List Gl × List Ti) (nm : ByteArray) (s : Int) (w : World) (h : SkX w b st X) (hX : ∀ g, X g → g < w.heap.size) (hf : numG st.1 nm = 0) (hl : st.1.length ≤ 1000) :
    Calls Tryz.prog 28 #[.pointer (some ⟨b, 0, none⟩), .string nm, .int .i64 s] w fun e w' => e = .returned (.int .i64 ((st.1.length + 1 : Nat) : Int)) ∧ SkX w' b (addG st nm s) X ∧ Far SkTs w w' ∧ Below b w w' := by
  obtain ⟨iG, hiG, hG0, hG1, hG2⟩ := info_parts infoGl
  obtain ⟨A1, c1, B2, c2, us, h⟩ := h
  obtain ⟨gs, ts⟩ := st
  have hsetH := Lib.hid h.set
  obtain ⟨ng, hng⟩ : ∃ ng, gs.length = ng := ⟨_, rfl⟩
  obtain ⟨hbx, hty, hgl, hti, hav⟩ := h
  simp only at hbx hgl hti hf hl hsetH hav
  rw [hng] at hbx hgl hl hav
  have havH := Lib.hid hav
  have hXH := Lib.hid hX
  have hbxH := Lib.hid hbx
  have hglH := Lib.hid hgl
  have htiH := Lib.hid hti
  have hfH := Lib.hid hf
  have hngH := Lib.hid hng
  have y0 := hbx.cell 0 _ rfl
  have f0 := hbx.froz 0
  have lb := hbx.lt
  clear hbx hgl hti hf hng hav hX
  go_enter Tryz.func28, Tryz.ntmps28
  go_upto_region 4 with (first
    | (go_at_call 48; refine (lGlueN_any b gs ts nm _ hsetH.out (by rw [hngH.out]; omega)).mono ?_; rw [hfH.out]; rintro e _ ⟨rfl, rfl⟩)
    | (at_builtin; refine wpList_append_own_at _ rfl _ _ 22 rfl (b + 1) 69 iG (.agg #[.string ByteArray.empty, .int .i64 0]) 2 24 Tryz.underlying22 hiG hG0 hG1 hG2 rfl (by decide) (.slice A1 ng c1) ng (flatC encGl gs) rfl (hglH.out.alloc _) ⟨w.heap.size, 0, none⟩ 1 1 [.string nm, .int .i64 s] rfl rfl (cell_two_newN _ _ _ _) (fun x hx => by simp at hx; rcases hx with rfl | rfl <;> rfl) (by unfold maxLen; omega) (by omega) (by simp; omega) ?_; intro v5 w5 hown5 hgrow5 _ hat5; have hat5H := Lib.hid hat5; clear hat5; obtain ⟨A5, c5, rfl⟩ := ownsRow_form hown5; have bx5 := Lib.hid ((hbxH.out.below (bl_al (bl_refl _) _)).grown hgrow5 (fun e => by have := (hglH.out.lt _ e).1; omega)); have z0 := bx5.out.cell 0 _ rfl; have zf := bx5.out.froz 0; have zl := bx5.out.lt; have hown5H := Lib.hid hown5; have hgrow5H := Lib.hid hgrow5; clear hown5 hgrow5))
  have hal : Below w.heap.size w (w.alloc (Obj.cells #[Value.string nm, Value.int .i64 s] 69)) := bl_al (bl_refl _) _
  have hown5 := hown5H.out
  have hgrow5 := hgrow5H.out
  have hgl1 := ownsRow_below hglH.out hal
  have gl6 := Lib.hid (ownsRow_setB hown5 (p := ⟨b, 0, none⟩) (Nat.lt_succ_self _) (.slice A5 (ng + 1) c5))
  have ti6 := Lib.hid (((htiH.out.below hal).keptG hgl1 (by decide) (by decide) hgrow5).setBelow (p := ⟨b, 0, none⟩) (Nat.lt_succ_self _) (.slice A5 (ng + 1) c5))
  have bx6 := Lib.hid (bx5.out.setSame 0 (.slice A5 (ng + 1) c5))
  obtain ⟨M0, f0', hr0⟩ := hty
  have hr5 : w5.rowIs b 60 M0 f0' := (hr0.alloc _).of_block (hgrow5.block b (hr0.alloc _).lt (fun e => by have := (hglH.out.lt _ e.symm).1; omega))
  have ty6 := hr5.set 0 (.slice A5 (ng + 1) c5)
  have far6 : Far SkTs w (w5.setCell ⟨b, 0, none⟩ (.slice A5 (ng + 1) c5)) := ((Far.of_below hal).trans (Far.grown hgl1 hgrow5 (by simp [SkTs]))).trans (Far.set hr5 (by simp [SkTs]) _)
  have bl6 : Below b w (w5.setCell ⟨b, 0, none⟩ (.slice A5 (ng + 1) c5)) := by
    have bl5 : Below b w w5 := (hal.mono (show b ≤ w.heap.size by omega)).grown hgrow5 (show b ≤ _ by simp; omega) (fun g e => show b ≤ g by have := (hglH.out.lt g e).1; omega)
    exact bl5.setCell (p := ⟨b, 0, none⟩) (Nat.le_refl _) _
  obtain ⟨w6, hw6⟩ : ∃ w6, w6 = w5.setCell ⟨b, 0, none⟩ (.slice A5 (ng + 1) c5) := ⟨_, rfl⟩
  rw [← hw6] at gl6 ti6 bx6 ty6 far6 bl6 ⊢
  have ty6H := Lib.hid ty6
  have far6H := Lib.hid far6
  have bl6H := Lib.hid bl6
  have z0 := bx6.out.cell 0 _ rfl
  have zl := bx6.out.lt
  clear hw6 hal hown5 hgrow5 hgl1 hr0 hr5 ty6 far6 bl6 bx5 hown5H hgrow5H y0 f0 lb hbxH hglH htiH zf
  go_wp2
  go_ret
  have hl8 : (gs ++ [(⟨nm, s⟩ : Gl)]).length = ng + 1 := by rw [List.length_append, hngH.out]; rfl
  refine ⟨by rw [hngH.out]; rfl, ⟨A5, c5, B2, c2, us, ?_⟩, far6H.out, bl6H.out⟩
  refine ⟨?_, ⟨_, _, ty6H.out⟩, ?_, ti6.out, ?_⟩
  · show Bx _ b [.slice A5 (gs ++ [(⟨nm, s⟩ : Gl)]).length c5, .slice B2 ts.length c2]
    rw [hl8]
    exact bx6.out
  · show World.ownsRow _ (b + 1) 69 2 (.slice A5 (gs ++ [(⟨nm, s⟩ : Gl)]).length c5) (gs ++ [(⟨nm, s⟩ : Gl)]).length (flatC encGl (gs ++ [(⟨nm, s⟩ : Gl)]))
    rw [hl8, flatC_snoc]
    exact gl6.out
  · intro g hg
    refine ⟨?_, (havH.out g hg).2⟩
    show (Value.slice A5 (gs ++ [(⟨nm, s⟩ : Gl)]).length c5).ownBlock ≠ some g
    rw [hl8]
    rcases hat5H.out with h | h
    · rw [h]; exact (havH.out g hg).1
    · rw [h]; intro e; injection e with e; have := hXH.out g hg; simp at e; omega
theorem sglue_any (b : Nat) (st : List Gl × List Ti) (nm : ByteArray) (s : Int) (w : World) (h : Sk w b st) (hf : numG st.1 nm = 0) (hl : st.1.length ≤ 1000) :
    Calls Tryz.prog 28 #[.pointer (some ⟨b, 0, none⟩), .string nm, .int .i64 s] w fun e w' => e = .returned (.int .i64 ((st.1.length + 1 : Nat) : Int)) ∧ Sk w' b (addG st nm s) ∧ Far SkTs w w' ∧ Below b w w' :=
  sglueX_any _ b st nm s w h (fun g hg => hg.elim) hf hl
theorem cell_two_at (W : World) (a c : Value) (t : TypeId) {k : Nat} (hk : W.heap.size = k) : ∀ j u, [a, c][j]? = some u → ((W.alloc (Obj.cells #[a, c] t)).drew).cell? ((⟨k, 0, none⟩ : Addr).add j) = some u := by
  subst hk
  intro j u h
  exact cell_two_newN W a c t j u h
set_option maxRecDepth 100000 in
set_option maxHeartbeats 4000000 in
theorem stileX_any (X : Nat → Prop) (b : Nat) (st : List Gl × List Ti) (nm s0 s1 s2 s3 : ByteArray) (w : World) (h : SkX w b st X) (hX : ∀ g, X g → g < w.heap.size) (hf : ∀ t ∈ st.2, t.name ≠ nm) (hg : st.1.length ≤ 1000) (hl : st.2.length ≤ 1000) :
    Calls Tryz.prog 31 #[.pointer (some ⟨b, 0, none⟩), .string nm, .string s0, .string s1, .string s2, .string s3] w fun e w' => e = .returned (.int .i64 (st.2.length : Int)) ∧ SkX w' b (addT st nm [s0, s1, s2, s3]) X ∧ Far SkTs w w' ∧ Below b w w' := by
  obtain ⟨iT, hiT, hT0, hT1, hT2⟩ := info_parts infoTi
  obtain ⟨A1, c1, B2, c2, us, h⟩ := h
  obtain ⟨gs, ts⟩ := st
  have hH := Lib.hid h
  have hsetH := Lib.hid h.set
  have hfH := Lib.hid hf
  have hXH := Lib.hid hX
  obtain ⟨nt, hnt⟩ : ∃ nt, ts.length = nt := ⟨_, rfl⟩
  have y0 := h.bx.cell 0 _ rfl
  have y1 := h.bx.cell 1 _ rfl
  have f1 := h.bx.froz 1
  have lb := h.bx.lt
  simp only at y1 hg hl hsetH
  rw [hnt] at y1 hl
  have hntH := Lib.hid hnt
  have hm4 := Lib.hid (show ts.length ≤ 281474976710656 by omega)
  obtain ⟨q0, hq0⟩ : ∃ q, (numG gs s0 : Int) = q := ⟨_, rfl⟩
  obtain ⟨q1, hq1⟩ : ∃ q, (numG gs s1 : Int) = q := ⟨_, rfl⟩
  obtain ⟨q2, hq2⟩ : ∃ q, (numG gs s2 : Int) = q := ⟨_, rfl⟩
  obtain ⟨q3, hq3⟩ : ∃ q, (numG gs s3 : Int) = q := ⟨_, rfl⟩
  have hq0H := Lib.hid hq0
  have hq1H := Lib.hid hq1
  have hq2H := Lib.hid hq2
  have hq3H := Lib.hid hq3
  clear h hf hX hnt hq0 hq1 hq2 hq3 y0
  go_enter Tryz.func31, Tryz.ntmps31
  go_wp2_with (go_at_call 50; refine (lTileN_any b gs ts nm _ hsetH.out hm4.out hfH.out).mono ?_; rintro e _ ⟨rfl, rfl⟩)
  refine wp_region_ord [(0, .p), (1, .q), (2, .q), (3, .q), (4, .q), (5, .q), (6, .q), (7, .q), (8, .q), (10, .q), (11, .q), (13, .q), (14, .q), (16, .q), (17, .q), (9, .g), (12, .g), (15, .g), (18, .g), (19, .g), (20, .q), (21, .g), (22, .b), (23, .q), (24, .q), (25, .q), (26, .b)] (by kernel_rfl) (by kernel_rfl) ?_
  simp only [pick, List.filterMap_cons, List.filterMap_nil, List.getElem?_toArray, List.getElem?_cons_zero, List.getElem?_cons_succ, Option.map_some]
  have hdr : Below w.heap.size w w.drew := bl_dr (bl_refl _)
  have hSk : SkX w.drew b (gs, ts) X := ⟨A1, c1, B2, c2, us, hH.out.below hdr⟩
  repeat (first | ((with_reducible refine wpD_p (fun K hK => ?_)); go_simp; refine hK _ ?_; clear hK K) | ((with_reducible refine wpD_q (fun K hK => ?_)); go_simp; (first | refine hK _ ?_ | (go_bits; refine hK _ ?_) | (go_bits; go_simp; refine hK _ ?_)); clear hK K))
  with_reducible refine wpD_g (fun K hK => ?_)
  go_simp
  refine (side_at hSk hg hq0H.out).mono ?_
  rintro e _ ⟨rfl, rfl⟩
  refine ⟨_, rfl, Below.refl _ _, hK _ _ ?_⟩
  clear hK K
  repeat (first | ((with_reducible refine wpD_p (fun K hK => ?_)); go_simp; refine hK _ ?_; clear hK K) | ((with_reducible refine wpD_q (fun K hK => ?_)); go_simp; (first | refine hK _ ?_ | (go_bits; refine hK _ ?_) | (go_bits; go_simp; refine hK _ ?_)); clear hK K))
  with_reducible refine wpD_g (fun K hK => ?_)
  go_simp
  refine (side_at hSk hg hq1H.out).mono ?_
  rintro e _ ⟨rfl, rfl⟩
  refine ⟨_, rfl, Below.refl _ _, hK _ _ ?_⟩
  clear hK K
  repeat (first | ((with_reducible refine wpD_p (fun K hK => ?_)); go_simp; refine hK _ ?_; clear hK K) | ((with_reducible refine wpD_q (fun K hK => ?_)); go_simp; (first | refine hK _ ?_ | (go_bits; refine hK _ ?_) | (go_bits; go_simp; refine hK _ ?_)); clear hK K))
  with_reducible refine wpD_g (fun K hK => ?_)
  go_simp
  refine (side_at hSk hg hq2H.out).mono ?_
  rintro e _ ⟨rfl, rfl⟩
  refine ⟨_, rfl, Below.refl _ _, hK _ _ ?_⟩
  clear hK K
  repeat (first | ((with_reducible refine wpD_p (fun K hK => ?_)); go_simp; refine hK _ ?_; clear hK K) | ((with_reducible refine wpD_q (fun K hK => ?_)); go_simp; (first | refine hK _ ?_ | (go_bits; refine hK _ ?_) | (go_bits; go_simp; refine hK _ ?_)); clear hK K))
  with_reducible refine wpD_g (fun K hK => ?_)
  go_simp
  refine (side_at hSk hg hq3H.out).mono ?_
  rintro e _ ⟨rfl, rfl⟩
  refine ⟨_, rfl, Below.refl _ _, hK _ _ ?_⟩
  clear hK K
  clear hSk hdr
  repeat (first | ((with_reducible refine wpD_p (fun K hK => ?_)); go_simp; refine hK _ ?_; clear hK K) | ((with_reducible refine wpD_q (fun K hK => ?_)); go_simp; (first | refine hK _ ?_ | (go_bits; refine hK _ ?_) | (go_bits; go_simp; refine hK _ ?_)); clear hK K))
  with_reducible refine wpD_g (fun K hK => ?_)
  go_simp
  refine ⟨Grew.of_alloc _, hK _ _ ?_⟩
  clear hK K
  repeat (first | ((with_reducible refine wpD_p (fun K hK => ?_)); go_simp; refine hK _ ?_; clear hK K) | ((with_reducible refine wpD_q (fun K hK => ?_)); go_simp; (first | refine hK _ ?_ | (go_bits; refine hK _ ?_) | (go_bits; go_simp; refine hK _ ?_)); clear hK K))
  with_reducible refine wpD_g (fun K hK => ?_)
  go_simp
  refine ⟨Grew.of_alloc _, hK _ _ ?_⟩
  clear hK K
  obtain ⟨W0, hW0⟩ : ∃ W0, W0 = w.alloc (Obj.cells #[.int .i64 q0, .int .i64 q1, .int .i64 q2, .int .i64 q3] 2) := ⟨_, rfl⟩
  have hal0 : Below w.heap.size w W0 := by rw [hW0]; exact bl_al (bl_refl _) _
  have hside : W0.ownsRow (b + 1) 2 1 (.slice (some ⟨w.heap.size, 0, none⟩) 4 4) 4 (flatC encI [q0, q1, q2, q3]) := by
    rw [hW0]
    exact World.ownsRow_lit (base := b + 1) (e := 2) (size := 1) w #[.int .i64 q0, .int .i64 q1, .int .i64 q2, .int .i64 q3] 4 (by omega) (by decide) rfl
  have hs0 : W0.heap.size = w.heap.size + 1 := by rw [hW0]; simp
  have hal1 : Below W0.heap.size W0 (W0.alloc (Obj.cells #[.string nm, .slice (some ⟨w.heap.size, 0, none⟩) 4 4] 73)).drew := bl_dr (bl_al (bl_refl _) _)
  have hal : Below w.heap.size w (W0.alloc (Obj.cells #[.string nm, .slice (some ⟨w.heap.size, 0, none⟩) 4 4] 73)).drew := hal0.trans (hal1.mono hal0.size)
  have hM1 := hH.out.below hal
  have hul : us.length = nt := hM1.ti.len.trans hntH.out
  have hout := hM1.ti.outer
  simp only at hout
  rw [hul, hntH.out] at hout
  rw [← hW0]
  refine wpD_append_atN rfl _ _ 23 rfl (b + 1) 73 iT (.agg #[.string ByteArray.empty, .slice none 0 0]) 2 40 Tryz.underlying23 hiT hT0 hT1 hT2 rfl (by decide) (.slice B2 nt c2) nt (flatC encNU ((ts.map Ti.name).zip us)) (by go_simp) hout ⟨w.heap.size + 1, 0, none⟩ 1 1 [.string nm, .slice (some ⟨w.heap.size, 0, none⟩) 4 4] (by go_simp) rfl (cell_two_at W0 _ _ _ hs0) (fun x hx => by simp at hx; rcases hx with rfl | rfl <;> rfl) (by unfold maxLen; omega) (by omega) (by simp; omega) ?_
  intro v5 w5 hown5 hgrow5 hat5
  obtain ⟨A5, c5, rfl⟩ := ownsRow_form hown5
  have hqs : sidesG gs [s0, s1, s2, s3] = [q0, q1, q2, q3] := by
    unfold sidesG
    simp only [List.map_cons, List.map_nil, hq0H.out, hq1H.out, hq2H.out, hq3H.out]
  have hxr := ownsRow_below hside hal1
  have hti1 : OwnT (W0.alloc (Obj.cells #[.string nm, .slice (some ⟨w.heap.size, 0, none⟩) 4 4] 73)).drew (b + 1) 73 2 (.slice B2 nt c2) us ts := by
    have := hM1.ti
    simp only at this
    rw [hntH.out] at this
    exact this
  have hti5 := Lib.hid (hti1.push (t := ⟨nm, [q0, q1, q2, q3]⟩) hul hxr (fun g e => by
    have e0 : w.heap.size = g := by injection e
    clear e
    subst e0
    refine ⟨fun e2 => ?_, fun j u hu e2 => ?_⟩
    · have e3 : (Value.slice B2 ts.length c2).ownBlock = some w.heap.size := by rw [hntH.out]; exact e2
      have := (hH.out.ti.lt _ e3).2; omega
    · have := (hH.out.ti.ltIn hu _ e2).2; omega) hown5 hgrow5 hat5)
  have hgl5 := Lib.hid (ownsRow_keptO hM1.gl hout (by decide) hgrow5)
  have hno : ∀ g, (Value.slice B2 nt c2).ownBlock = some g → b + 1 ≤ g := fun g e => (hout.lt g e).1
  have hbx5 := Lib.hid (hM1.bx.grown hgrow5 (fun e => by have := hno _ e; omega))
  obtain ⟨M0, f0', hr0⟩ := hM1.ty
  have hr5 : w5.rowIs b 60 M0 f0' := hr0.of_block (hgrow5.block b hr0.lt (fun e => by have := hno _ e.symm; omega))
  have far5 := Lib.hid ((Far.of_below hal).trans (Far.grown (Ts := SkTs) hout hgrow5 (by simp [SkTs])))
  have bl5 := Lib.hid ((hal.mono (show b ≤ w.heap.size by omega)).grown hgrow5 (show b ≤ _ by simp; omega) (fun g e => show b ≤ g by have := hno g e; omega))
  have hr5H := Lib.hid hr5
  have hat5H := Lib.hid hat5
  have hs0H := Lib.hid hs0
  have hqsH := Lib.hid hqs
  have z1 := hbx5.out.cell 1 _ rfl
  have zf := hbx5.out.froz 1
  have zl := hbx5.out.lt
  simp only at z1
  rw [hntH.out] at z1
  clear hown5 hgrow5 hat5 hxr hno hr0 hr5 hal hal0 hal1 hM1 hout y1 f1 lb hside hs0 hti1 hul hqs hW0
  repeat (first | ((with_reducible refine wpD_p (fun K hK => ?_)); go_simp; refine hK _ ?_; clear hK K) | ((with_reducible refine wpD_q (fun K hK => ?_)); go_simp; (first | refine hK _ ?_ | (go_bits; refine hK _ ?_) | (go_bits; go_simp; refine hK _ ?_)); clear hK K))
  with_reducible refine wpD_b (fun K hK => ?_)
  go_simp
  refine hK _ _ ?_
  clear hK K
  with_reducible refine wpD_nil ?_
  go_wp2
  refine bodyPost_ret (v := .int .i64 (nt : Int)) (by simp only [results, Tryz.results31]; go_simp) rfl ?_
  have hr6 := hr5H.out.set 1 (.slice A5 (nt + 1) c5)
  have hl6 : (ts ++ [(⟨nm, [q0, q1, q2, q3]⟩ : Ti)]).length = nt + 1 := by rw [List.length_append, hntH.out]; rfl
  refine ⟨by rw [hntH.out], ⟨A1, c1, A5, c5, us ++ [.slice (some ⟨w.heap.size, 0, none⟩) 4 4], ?_⟩, far5.out.trans (Far.set hr5H.out (by simp [SkTs]) _), bl5.out.setCell (p := ⟨b, 1, none⟩) (show b ≤ b by omega) _⟩
  unfold addT
  simp only
  rw [hqsH.out]
  refine ⟨?_, ⟨_, _, hr6⟩, ?_, ?_, ?_⟩
  · show Bx _ b [.slice A1 gs.length c1, .slice A5 (ts ++ [(⟨nm, [q0, q1, q2, q3]⟩ : Ti)]).length c5]
    rw [hl6]
    exact hbx5.out.setSame 1 _
  · exact ownsRow_setB hgl5.out (p := ⟨b, 1, none⟩) (Nat.lt_succ_self _) _
  · show OwnT _ (b + 1) 73 2 (.slice A5 (ts ++ [(⟨nm, [q0, q1, q2, q3]⟩ : Ti)]).length c5) _ _
    rw [hl6]
    exact hti5.out.setBelow (p := ⟨b, 1, none⟩) (Nat.lt_succ_self _) _
  · intro g hg
    have hav := hH.out.av g hg
    have hgl' := hXH.out g hg
    refine ⟨hav.1, ?_, fun j u hu => ?_⟩
    · show (Value.slice A5 (ts ++ [(⟨nm, [q0, q1, q2, q3]⟩ : Ti)]).length c5).ownBlock ≠ some g
      rw [hl6]
      rcases hat5H.out with h | h
      · rw [h]
        have := hav.2.1
        simp only at this
        rw [hntH.out] at this
        exact this
      · rw [h]; intro e; injection e with e; simp at e; have := hs0H.out; omega
    · rcases Nat.lt_or_ge j us.length with hj | hj
      · rw [List.getElem?_append_left hj] at hu
        exact hav.2.2 j u hu
      · have hlt := (List.getElem?_eq_some_iff.1 hu).1
        simp at hlt
        obtain rfl : j = us.length := by omega
        simp at hu
        subst hu
        intro e
        have e0 : w.heap.size = g := by injection e
        omega
theorem stile_any (b : Nat) (st : List Gl × List Ti) (nm s0 s1 s2 s3 : ByteArray) (w : World) (h : Sk w b st) (hf : ∀ t ∈ st.2, t.name ≠ nm) (hg : st.1.length ≤ 1000) (hl : st.2.length ≤ 1000) :
    Calls Tryz.prog 31 #[.pointer (some ⟨b, 0, none⟩), .string nm, .string s0, .string s1, .string s2, .string s3] w fun e w' => e = .returned (.int .i64 (st.2.length : Int)) ∧ Sk w' b (addT st nm [s0, s1, s2, s3]) ∧ Far SkTs w w' ∧ Below b w w' :=
  stileX_any _ b st nm s0 s1 s2 s3 w h (fun g hg => hg.elim) hf hg hl
end Go.Proofs.YtpnahobgmemdjaaGreatDoor
