/- Walks: the program's maker of a set by names. -/
import Derived.Test.YtpnahobgmemdjaaGreatDoorKM
import Derived.Test.YtpnahobgmemdjaaGreatDoorKX
import Derived.Test.YtpnahobgmemdjaaGreatDoorKF
import Derived.Deep.Cut
namespace Go.Proofs.YtpnahobgmemdjaaGreatDoor
open Go.RowKit Go.Shelf
set_option linter.unusedSimpArgs false
set_option linter.unusedVariables false
attribute [local go_sem] BelowBy.cell BelowBy.cell_drew stillUpon givesUpon

section
variable {Ts : List TypeId} {w w' : World}
theorem Far.grown {base s n : Nat} {G : TypeId} {v : Value} {xs : List Value} (hG : w.ownsRow base G s v n xs) (hg : w.grownBy w' v.ownBlock) (hT : G ∈ Ts) : Far Ts w w' :=
  fun b T M f hr hT' => hg.block b hr.lt (fun e => own_ne_row hG hr (fun h => hT' (h ▸ hT)) e.symm)
theorem Far.map {bm n : Nat} {M : ByteArray → Nat} (hM : NMap w bm n M) (hg : w.grownBy w' (some bm)) : Far Ts w w' :=
  fun b T N f hr _ => hg.block b hr.lt (fun e => by
    injection e with e
    subst e
    obtain ⟨es, clock, hh⟩ := hM.isMap
    obtain ⟨cur, h2, _⟩ := hr
    rw [hh] at h2
    cases h2)
theorem Bx.far {b M : Nat} {T : TypeId} {f : Nat → Value} {l : List Value} (h : Bx w b l) (hr : w.rowIs b T M f) (hf : Far Ts w w') (hT : T ∉ Ts) (hs : w.heap.size ≤ w'.heap.size) : Bx w' b l := h.of_block hs (hf b T M f hr hT)
theorem rowIs_far {b M : Nat} {T : TypeId} {f : Nat → Value} (hr : w.rowIs b T M f) (hf : Far Ts w w') (hT : T ∉ Ts) : w'.rowIs b T M f := hr.of_block (hf b T M f hr hT)
theorem ownsRow_far {base s n : Nat} {T : TypeId} {v : Value} {xs : List Value} (h : w.ownsRow base T s v n xs) (hf : Far Ts w w') (hT : T ∉ Ts) : w'.ownsRow base T s v n xs := by
  obtain ⟨h1, h2⟩ := h
  refine ⟨h1, ?_⟩
  rcases h2 with h2 | ⟨g, cap, cur, hv, hb, hh, r⟩
  · exact .inl h2
  · exact .inr ⟨g, cap, cur, hv, hb, (hf g T cur.size (fun i => cur.getD i undef) ⟨cur, hh, rfl, fun i hi => by simp [hi]⟩ hT).trans hh, r⟩
end
theorem rowIs_made (w : World) (l : List Value) (t : TypeId) : ∃ M f, (w.alloc (.cells l.toArray t)).rowIs w.heap.size t M f :=
  ⟨l.length, fun i => l.toArray.getD i undef, l.toArray, by show (w.heap.push _)[w.heap.size]? = _; simp, by simp, fun i hi => by simp [hi]⟩
theorem ownsRow_keptO {w w' : World} {base base' s1 s2 n1 n2 : Nat} {e1 e2 : TypeId} {v1 v2 : Value} {xs1 xs2 : List Value} (h : w.ownsRow base e1 s1 v1 n1 xs1) (k : w.ownsRow base' e2 s2 v2 n2 xs2) (hne : e1 ≠ e2) (hg : w.grownBy w' v2.ownBlock) : w'.ownsRow base e1 s1 v1 n1 xs1 := by
  refine h.kept hg ?_
  cases hb : v1.ownBlock with
  | none => exact .inl rfl
  | some g => exact .inr fun e => own_ne_own h k hne hb e.symm
/-- A maker: its box b, the map of numbers bm, its rows behind the box. -/
structure MkrAt (w : World) (b bm n : Nat) (A1 : Option Addr) (c1 : Nat) (B2 : Option Addr) (c2 : Nat) (us : List Value) (st : List Gl × List Ti) (X : Nat → Prop) : Prop where
  bx : Bx w b [.slice A1 st.1.length c1, .slice B2 st.2.length c2, .map (some bm)]
  ty : ∃ M f, w.rowIs b 50 M f
  gl : w.ownsRow (b + 1) 69 2 (.slice A1 st.1.length c1) st.1.length (flatC encGl st.1)
  ti : OwnT w (b + 1) 73 2 (.slice B2 st.2.length c2) us st.2
  mp : NMap w bm n (numG st.1)
  le : n ≤ st.1.length + 1
  lt : bm < b
  av : ∀ g, X g → (Value.slice A1 st.1.length c1).ownBlock ≠ some g ∧ (Value.slice B2 st.2.length c2).ownBlock ≠ some g ∧ ∀ (k : Nat) (u : Value), us[k]? = some u → u.ownBlock ≠ some g
/-- .. none of whose rows lies in a block of X -/
def MkrX (w : World) (b bm : Nat) (st : List Gl × List Ti) (X : Nat → Prop) : Prop := ∃ n A1 c1 B2 c2 us, MkrAt w b bm n A1 c1 B2 c2 us st X
def Mkr (w : World) (b bm : Nat) (st : List Gl × List Ti) : Prop := MkrX w b bm st (fun _ => False)
def MkTs : List TypeId := [50, 69, 73]
section
variable {w w' : World} {b bm n : Nat} {A1 B2 : Option Addr} {c1 c2 : Nat} {us : List Value} {st : List Gl × List Ti} {X Y : Nat → Prop}
theorem MkrAt.below (h : MkrAt w b bm n A1 c1 B2 c2 us st X) (hb : Below w.heap.size w w') : MkrAt w' b bm n A1 c1 B2 c2 us st X := by
  obtain ⟨M, f, hr⟩ := h.ty
  exact ⟨h.bx.below hb, ⟨M, f, hr.of_block (hb.block b hr.lt)⟩, ownsRow_below h.gl hb, h.ti.below hb, h.mp.below hb, h.le, h.lt, h.av⟩
theorem MkrX.below (h : MkrX w b bm st X) (hb : Below w.heap.size w w') : MkrX w' b bm st X := by
  obtain ⟨n, A1, c1, B2, c2, us, h⟩ := h
  exact ⟨n, A1, c1, B2, c2, us, h.below hb⟩
theorem Mkr.below (h : Mkr w b bm st) (hb : Below w.heap.size w w') : Mkr w' b bm st := MkrX.below h hb
theorem MkrX.lt (h : MkrX w b bm st X) : bm < b ∧ b < w.heap.size := by
  obtain ⟨n, A1, c1, B2, c2, us, h⟩ := h
  exact ⟨h.lt, h.bx.lt⟩
theorem Mkr.lt (h : Mkr w b bm st) : bm < b ∧ b < w.heap.size := MkrX.lt h
/-- other blocks are kept clear -/
theorem MkrX.clear_ (h : MkrX w b bm st X) (hY : ∀ g, Y g → X g ∨ w.heap.size ≤ g) : MkrX w b bm st Y := by
  obtain ⟨n, A1, c1, B2, c2, us, h⟩ := h
  refine ⟨n, A1, c1, B2, c2, us, h.bx, h.ty, h.gl, h.ti, h.mp, h.le, h.lt, fun g hg => ?_⟩
  rcases hY g hg with hx | hx
  · exact h.av g hx
  · exact ⟨fun e => by have := (h.gl.lt _ e).2; omega, fun e => by have := (h.ti.lt _ e).2; omega, fun k u hu e => by have := (h.ti.ltIn hu _ e).2; omega⟩
/-- a row in a block that is kept clear grows -/
theorem MkrX.grown {row : Option Nat} (h : MkrX w b bm st X) (hg : w.grownBy w' row) (hrow : ∀ g, row = some g → X g ∧ b < g) : MkrX w' b bm st X := by
  obtain ⟨n, A1, c1, B2, c2, us, h⟩ := h
  have hne : row ≠ some b := fun e => by have := (hrow _ e).2; omega
  have hnm : row ≠ some bm := fun e => by have := (hrow _ e).2; have := h.lt; omega
  obtain ⟨M, f, hr⟩ := h.ty
  refine ⟨n, A1, c1, B2, c2, us, h.bx.grown hg hne, ⟨M, f, hr.of_block (hg.block b hr.lt (fun e => hne e.symm))⟩, h.gl.kept hg ?_, h.ti.kept hg (fun g e => ⟨(h.av g (hrow g e).1).2.1, fun k u hu => (h.av g (hrow g e).1).2.2 k u hu⟩), h.mp.kept hg (fun e => hnm e.symm), h.le, h.lt, h.av⟩
  cases hb : (Value.slice A1 st.1.length c1).ownBlock with
  | none => exact .inl rfl
  | some g => exact .inr fun e => (h.av g (hrow g e.symm).1).1 hb
end
set_option maxRecDepth 100000 in
set_option maxHeartbeats 4000000 in
theorem newMaker_any (w : World) :
    Calls Tryz.prog 13 #[] w fun e w' => ∃ b bm, e = .returned (.pointer (some ⟨b, 0, none⟩)) ∧ Mkr w' b bm ([], []) ∧ w.heap.size ≤ bm ∧ Below w.heap.size w w' := by
  have hmm := @run_makeMap Tryz.prog
  obtain ⟨w1, hrun, hM, hg⟩ := (NMap.made w).put ⟨#[45]⟩ (by unfold maxLen; decide) 0 (by omega) (by unfold maxLen; omega)
  have hMH := Lib.hid (hM.say (M' := numG []) (fun t => by simp [numG_nil]))
  have hb1 := (Below.refl w.heap.size w).alloc (Nat.le_refl _) (Obj.map #[] 0) |>.grown hg (by simp) (fun g e => by injection e with e; omega)
  have hb1H := Lib.hid hb1
  have hs1 : w.heap.size < w1.heap.size := by have := hg.size; simp at this; omega
  rw [show ((0 : Nat) : Int) = 0 from rfl] at hrun
  clear hM hg hb1
  go_enter Tryz.func13, Tryz.ntmps13
  go_wp2
  go_ret
  refine ⟨w1.heap.size, w.heap.size, rfl, ⟨1, Option.none, 0, Option.none, 0, [], ?_⟩, Nat.le_refl _, hb1H.out.alloc (by omega) _⟩
  exact ⟨Bx.made w1 [.slice none 0 0, .slice none 0 0, .map (some w.heap.size)] 50, rowIs_made _ _ _, World.ownsRow_nil _ _ _ _, OwnT.nil _ _ _ _, hMH.out.below (bl_al (bl_refl _) _), Nat.le_refl _, hs1, fun g hg => hg.elim⟩
set_option maxRecDepth 100000 in
set_option maxHeartbeats 4000000 in
theorem glueX_any (X : Nat → Prop) (b bm : Nat) (st : List Gl × List Ti) (nm : ByteArray) (s : Int) (w : World) (h : MkrX w b bm st X) (hX : ∀ g, X g → g < w.heap.size) (hf : numG st.1 nm = 0) (hz : nm.size ≤ 1000) (hl : st.1.length ≤ 1000) :
    Calls Tryz.prog 14 #[.pointer (some ⟨b, 0, none⟩), .string nm, .int .i64 s] w fun e w' => e = .returned (.tuple #[]) ∧ MkrX w' b bm (addG st nm s) X ∧ Far MkTs w w' ∧ Below bm w w' := by
  obtain ⟨iG, hiG, hG0, hG1, hG2⟩ := info_parts infoGl
  obtain ⟨n, A1, c1, B2, c2, us, h⟩ := h
  obtain ⟨gs, ts⟩ := st
  obtain ⟨ng, hng⟩ : ∃ ng, gs.length = ng := ⟨_, rfl⟩
  obtain ⟨hbx, hty, hgl, hti, hmp, hle, hlt, hav⟩ := h
  simp only at hbx hgl hti hmp hle hf hl hav
  rw [hng] at hbx hgl hle hl hav
  have havH := Lib.hid hav
  have hXH := Lib.hid hX
  have hbxH := Lib.hid hbx
  have hglH := Lib.hid hgl
  have htiH := Lib.hid hti
  have hmpH := Lib.hid hmp
  have hfH := Lib.hid hf
  have hngH := Lib.hid hng
  have y0 := hbx.cell 0 _ rfl
  have y1 := hbx.cell 1 _ rfl
  have y2 := hbx.cell 2 _ rfl
  have f0 := hbx.froz 0
  have lb := hbx.lt
  clear hbx hgl hti hmp hf hng hav hX
  go_enter Tryz.func14, Tryz.ntmps14
  go_upto_region 1 with (at_builtin; refine wpList_append_own_at _ rfl _ _ 22 rfl (b + 1) 69 iG (.agg #[.string ByteArray.empty, .int .i64 0]) 2 24 Tryz.underlying22 hiG hG0 hG1 hG2 rfl (by decide) (.slice A1 ng c1) ng (flatC encGl gs) rfl (hglH.out.alloc _) ⟨w.heap.size, 0, none⟩ 1 1 [.string nm, .int .i64 s] rfl rfl (cell_two_newN _ _ _ _) (fun x hx => by simp at hx; rcases hx with rfl | rfl <;> rfl) (by unfold maxLen; omega) (by omega) (by simp; omega) ?_; intro v5 w5 hown5 hgrow5 _ hat5; obtain ⟨A5, c5, rfl⟩ := ownsRow_form hown5; have hat5H := Lib.hid hat5; clear hat5; have bx5 := Lib.hid ((hbxH.out.below (bl_al (bl_refl _) _)).grown hgrow5 (fun e => by have := (hglH.out.lt _ e).1; omega)); have z0 := bx5.out.cell 0 _ rfl; have z2 := bx5.out.cell 2 _ rfl; have zf := bx5.out.froz 0; have zl := bx5.out.lt; have hown5H := Lib.hid hown5; have hgrow5H := Lib.hid hgrow5; clear hown5 hgrow5)
  have hal : Below w.heap.size w (w.alloc (Obj.cells #[Value.string nm, Value.int .i64 s] 69)) := bl_al (bl_refl _) _
  have hown5 := hown5H.out
  have hgrow5 := hgrow5H.out
  have hgl1 := ownsRow_below hglH.out hal
  have gl6 := Lib.hid (ownsRow_setB hown5 (p := ⟨b, 0, none⟩) (Nat.lt_succ_self _) (.slice A5 (ng + 1) c5))
  have ti6 := Lib.hid (((htiH.out.below hal).keptG hgl1 (by decide) (by decide) hgrow5).setBelow (p := ⟨b, 0, none⟩) (Nat.lt_succ_self _) (.slice A5 (ng + 1) c5))
  have bx6 := Lib.hid (bx5.out.setSame 0 (.slice A5 (ng + 1) c5))
  have mp6 := Lib.hid (((hmpH.out.below hal).kept hgrow5 (fun e => by have := (hglH.out.lt _ e.symm).1; omega)).block (w' := w5.setCell ⟨b, 0, none⟩ (.slice A5 (ng + 1) c5)) (Below.heap_setCell _ _ _ _ (show bm ≠ b by omega)))
  obtain ⟨M0, f0', hr0⟩ := hty
  have hr5 : w5.rowIs b 50 M0 f0' := (hr0.alloc _).of_block (hgrow5.block b (hr0.alloc _).lt (fun e => by have := (hglH.out.lt _ e.symm).1; omega))
  have ty6 := hr5.set 0 (.slice A5 (ng + 1) c5)
  have far6 : Far MkTs w (w5.setCell ⟨b, 0, none⟩ (.slice A5 (ng + 1) c5)) := ((Far.of_below hal).trans (Far.grown hgl1 hgrow5 (by simp [MkTs]))).trans (Far.set hr5 (by simp [MkTs]) _)
  have bl6 : Below bm w (w5.setCell ⟨b, 0, none⟩ (.slice A5 (ng + 1) c5)) := (((hal.mono (by omega)).grown hgrow5 (by simp; omega) (fun g e => by have := (hglH.out.lt g e).1; omega))).setCell (p := ⟨b, 0, none⟩) (by simp; omega) _
  obtain ⟨w6, hw6⟩ : ∃ w6, w6 = w5.setCell ⟨b, 0, none⟩ (.slice A5 (ng + 1) c5) := ⟨_, rfl⟩
  rw [← hw6] at gl6 ti6 bx6 mp6 ty6 far6 bl6 ⊢
  have hs6 := bl6.size
  have ty6H := Lib.hid ty6
  have far6H := Lib.hid far6
  have bl6H := Lib.hid bl6
  have z0 := bx6.out.cell 0 _ rfl
  have z2 := bx6.out.cell 2 _ rfl
  have zl := bx6.out.lt
  clear hw6 hal hown5 hgrow5 hgl1 hr0 hr5 ty6 far6 bl6 bx5 hown5H hgrow5H y0 y1 y2 f0 lb hbxH hglH htiH hmpH zf
  refine wp_region_ord [(0, .q), (1, .q), (2, .q), (3, .q), (4, .q), (5, .q), (6, .q), (7, .q), (8, .q), (9, .q), (10, .q), (11, .b)] (by kernel_rfl) (by kernel_rfl) ?_
  simp only [pick, List.filterMap_cons, List.filterMap_nil, List.getElem?_toArray, List.getElem?_cons_zero, List.getElem?_cons_succ, Option.map_some]
  repeat (first | ((with_reducible refine wpD_p (fun K hK => ?_)); go_simp; refine hK _ ?_; clear hK K) | ((with_reducible refine wpD_q (fun K hK => ?_)); go_simp; (first | refine hK _ ?_ | (go_bits; refine hK _ ?_) | (go_bits; go_simp; refine hK _ ?_)); clear hK K))
  refine wpD_putN (by go_simp) _ _ _ rfl bm n (numG gs) rfl (mp6.out.below (bl_dr (bl_refl _))) nm (by unfold maxLen; omega) (ng + 1) (by omega) (by unfold maxLen; omega) rfl (by go_simp) ?_
  intro w7 hM7 hg7
  with_reducible refine wpD_nil ?_
  go_wp2
  have hdr : Below w6.heap.size w6 w6.drew := bl_dr (bl_refl _)
  have hl8 : (gs ++ [(⟨nm, s⟩ : Gl)]).length = ng + 1 := by rw [List.length_append, hngH.out]; rfl
  have hno : ∀ g, some bm = some g → g < b + 1 := fun g e => by injection e with e; omega
  refine bodyPost_end (v := .tuple #[]) (by simp only [results, Tryz.results14]; go_simp) rfl ?_
  refine ⟨rfl, ⟨n + 1, A5, c5, B2, c2, us, ?_⟩, (far6H.out.trans (Far.of_below hdr)).trans (Far.map (mp6.out.below hdr) hg7), ((bl6H.out.trans (hdr.mono (by omega))).grown hg7 (by simp; omega) (fun g e => by injection e with e; omega))⟩
  refine ⟨?_, ⟨_, _, (ty6H.out.of_block (hdr.block b zl)).of_block (hg7.block b (by simpa using zl) (fun e => by injection e with e; omega))⟩, ?_, ?_, ?_, ?_, hlt, ?_⟩
  · show Bx w7 b [.slice A5 (gs ++ [(⟨nm, s⟩ : Gl)]).length c5, .slice B2 ts.length c2, .map (some bm)]
    rw [hl8]
    exact (bx6.out.below hdr).grown hg7 (fun e => by injection e with e; omega)
  · show w7.ownsRow (b + 1) 69 2 (.slice A5 (gs ++ [(⟨nm, s⟩ : Gl)]).length c5) (gs ++ [(⟨nm, s⟩ : Gl)]).length (flatC encGl (gs ++ [(⟨nm, s⟩ : Gl)]))
    rw [hl8, flatC_snoc]
    exact (ownsRow_below gl6.out hdr).kept hg7 (.inr (fun e => by have := (gl6.out.lt _ e).1; omega))
  · exact (ti6.out.below hdr).kept hg7 (fun g e => ⟨fun e2 => by have := (ti6.out.lt _ e2).1; have := hno g e; omega, fun k u hu e2 => by have := (ti6.out.ltIn hu _ e2).1; have := hno g e; omega⟩)
  · refine hM7.say (fun t => ?_)
    have := numG_snoc gs ⟨nm, s⟩ t hfH.out
    rw [hngH.out] at this
    exact this.symm
  · show n + 1 ≤ (gs ++ [(⟨nm, s⟩ : Gl)]).length + 1
    rw [hl8]; omega
  · intro g hg
    refine ⟨?_, (havH.out g hg).2⟩
    show (Value.slice A5 (gs ++ [(⟨nm, s⟩ : Gl)]).length c5).ownBlock ≠ some g
    rw [hl8]
    rcases hat5H.out with h | h
    · rw [h]; exact (havH.out g hg).1
    · rw [h]; intro e; injection e with e; have := hXH.out g hg; simp at e; omega
theorem glue_any (b bm : Nat) (st : List Gl × List Ti) (nm : ByteArray) (s : Int) (w : World) (h : Mkr w b bm st) (hf : numG st.1 nm = 0) (hz : nm.size ≤ 1000) (hl : st.1.length ≤ 1000) :
    Calls Tryz.prog 14 #[.pointer (some ⟨b, 0, none⟩), .string nm, .int .i64 s] w fun e w' => e = .returned (.tuple #[]) ∧ Mkr w' b bm (addG st nm s) ∧ Far MkTs w w' ∧ Below bm w w' :=
  glueX_any _ b bm st nm s w h (fun g hg => hg.elim) hf hz hl
/-- a row of strings -/
def RNm (w : World) (b o : Nat) (s : ByteArray) : Prop := w.cell? ⟨b, o, none⟩ = some (.string s)
theorem RNm.stable : Stable RNm := fun _ _ _ _ _ h hb hw => (hw.cell (by exact hb)).trans h
set_option maxRecDepth 100000 in
set_option maxHeartbeats 4000000 in
theorem tileX_any (X : Nat → Prop) (b bm : Nat) (st : List Gl × List Ti) (nm : ByteArray) (A : Option Addr) (n c : Nat) (ss : List ByteArray) (w : World) (h : MkrX w b bm st X) (hX : ∀ g, X g → g < w.heap.size) (hA : RdSl 1 RNm w A n ss) (hz : nm.size ≤ 1000) (hzs : ∀ s ∈ ss, s.size ≤ 1000) (hn : n ≤ 1000) (hg : st.1.length ≤ 1000) (hl : st.2.length ≤ 1000) :
    Calls Tryz.prog 17 #[.pointer (some ⟨b, 0, none⟩), .string nm, .slice A n c] w fun e w' => e = .returned (.int .i64 (st.2.length : Int)) ∧ MkrX w' b bm (addT st nm ss) X ∧ Far MkTs w w' ∧ Below bm w w' := by
  obtain ⟨iT, hiT, hT0, hT1, hT2⟩ := info_parts infoTi
  obtain ⟨i1, hi', hz0', hz1', hz2'⟩ := info_parts infoI
  obtain ⟨gs, ts⟩ := st
  simp only at hg hl
  have hlA := Lib.hid hA.len
  have hAH := Lib.hid hA
  obtain ⟨m, A1, c1, B2, c2, us, h⟩ := h
  have hH := Lib.hid h
  have hzsH := Lib.hid hzs
  have hXH := Lib.hid hX
  have hlt := h.lt
  have hbw0 := h.bx.lt
  clear hA h hzs hX
  go_enter Tryz.func17, Tryz.ntmps17
  go_wp2
  go_loopg [14] n (fun g i wr => ∃ (k : Nat) (Av : Option Addr) (cv : Nat), k + g = n ∧ i = .int .i64 (k : Int) ∧ Hid (wr.ownsRow (w.heap.size + 1) 2 1 (.slice Av k cv) k (flatC encI (sidesG gs (ss.take k)))) ∧ Hid (Bx wr w.heap.size [.string nm, .slice Av k cv]) ∧ Hid (Below w.heap.size w wr))
  case atStart => exact ⟨0, none, 0, by omega, rfl, Lib.hid (World.ownsRow_nil _ _ _ _), Lib.hid (Bx.made w [.string nm, .slice none 0 0] 73), Lib.hid (bl_al (bl_refl _) _)⟩
  case round =>
    obtain ⟨k, Av, cv, hk, rfl, hV, bT, hbw⟩ := hrel
    have hszl := hbw.out.size
    have y0 := bT.out.cell 0 _ rfl
    have y1 := bT.out.cell 1 _ rfl
    have fT := bT.out.froz
    have lT := bT.out.lt
    have hM := hH.out.below hbw.out
    have x0 := hM.bx.cell 0 _ rfl
    have x1 := hM.bx.cell 1 _ rfl
    have x2 := hM.bx.cell 2 _ rfl
    have fb := hM.bx.froz
    have lb := hM.bx.lt
    by_cases hkn : k < n
    · have hMH := Lib.hid hM.mp
      obtain ⟨s, hs⟩ : ∃ s, ss[k]? = some s := ⟨_, List.getElem?_eq_getElem (by rw [hlA.out]; exact hkn)⟩
      have hsz := hzsH.out s (List.mem_of_getElem? hs)
      have hAw := hAH.out.below RNm.stable hbw.out
      obtain ⟨bb, ob, rfl, hbb, hbc⟩ := hAw.ptr (by omega)
      have p0 : wr.cell? ⟨bb, ob + k, none⟩ = some (.string s) := by have := hbc k s hs; rw [Nat.mul_one] at this; exact this
      have htk := Lib.hid (show flatC encI (sidesG gs (ss.take (k + 1))) = flatC encI (sidesG gs (ss.take k)) ++ [.int .i64 (numG gs s : Int)] by
        rw [List.take_add_one, hs]
        simp only [sidesG, List.map_append, Option.toList_some, List.map_cons, List.map_nil]
        rw [flatC_snoc]; rfl)
      clear hM hbc hs hAw
      go_wp2_with fail
      refine wp_region_ord [(0, .q), (1, .q), (2, .q), (3, .q), (4, .q), (5, .q), (6, .q), (7, .q), (8, .g), (9, .b), (10, .q), (11, .b)] (by kernel_rfl) (by kernel_rfl) ?_
      simp only [pick, List.filterMap_cons, List.filterMap_nil, List.getElem?_toArray, List.getElem?_cons_zero, List.getElem?_cons_succ, Option.map_some]
      repeat (first | ((with_reducible refine wpD_p (fun K hK => ?_)); go_simp; refine hK _ ?_; clear hK K) | ((with_reducible refine wpD_q (fun K hK => ?_)); go_simp; (first | refine hK _ ?_ | (go_bits; refine hK _ ?_) | (go_bits; go_simp; refine hK _ ?_)); clear hK K))
      refine wpD_lookN (by go_simp) _ _ rfl bm m (numG gs) rfl (hMH.out.below (bl_dr (bl_refl _))) s (by unfold maxLen; omega) rfl ?_
      repeat (first | ((with_reducible refine wpD_p (fun K hK => ?_)); go_simp; refine hK _ ?_; clear hK K) | ((with_reducible refine wpD_q (fun K hK => ?_)); go_simp; (first | refine hK _ ?_ | (go_bits; refine hK _ ?_) | (go_bits; go_simp; refine hK _ ?_)); clear hK K))
      with_reducible refine wpD_g (fun K hK => ?_)
      go_simp
      refine ⟨Grew.of_alloc _, hK _ _ ?_⟩
      clear hK K
      have hal : Below wr.heap.size wr (wr.drew.alloc (Obj.cells #[.int .i64 (numG gs s : Int)] 2)) := bl_al (bl_dr (bl_refl _)) _
      have hV1 := ownsRow_below hV.out hal
      refine wpD_append_atN rfl _ _ 55 rfl (w.heap.size + 1) 2 i1 (.int .i64 0) 1 8 Tryz.underlying55 hi' hz0' hz1' hz2' rfl (by decide) (.slice Av k cv) k (flatC encI (sidesG gs (ss.take k))) (by go_simp) hV1 ⟨wr.heap.size, 0, none⟩ 1 1 [.int .i64 (numG gs s : Int)] (by go_simp) rfl (cell_one_new _ _ _) (fun x hx => by simp at hx; subst hx; rfl) (by unfold maxLen; omega) (by omega) (by simp; omega) ?_
      intro v5 w5 hown5 hgrow5 hat5
      obtain ⟨A5, c5, rfl⟩ := ownsRow_form hown5
      rw [← htk.out] at hown5
      have bT5 := Lib.hid ((bT.out.below hal).grown hgrow5 (fun e => by have := (hV.out.lt _ e).1; omega))
      have bw5 := Lib.hid ((hbw.out.trans (hal.mono hszl)).grown hgrow5 (by simp; omega) (fun g e => by have := (hV.out.lt g e).1; omega))
      have hV5 := Lib.hid hown5
      have q1 := bT5.out.cell 1 _ rfl
      have qf := bT5.out.froz 1
      have ql := bT5.out.lt
      clear hown5 hgrow5 hat5 hal hV1 hV bT hbw y0 y1 fT lT x0 x1 x2 fb lb p0 hMH htk
      repeat (first | ((with_reducible refine wpD_p (fun K hK => ?_)); go_simp; refine hK _ ?_; clear hK K) | ((with_reducible refine wpD_q (fun K hK => ?_)); go_simp; (first | refine hK _ ?_ | (go_bits; refine hK _ ?_) | (go_bits; go_simp; refine hK _ ?_)); clear hK K))
      with_reducible refine wpD_b (fun K hK => ?_)
      go_simp
      refine hK _ _ ?_
      clear hK K
      with_reducible refine wpD_nil ?_
      go_wp2
      go_roundg (n - (k + 1))
      case measure => omega
      case rel => exact ⟨k + 1, A5, c5, by omega, by go_num, Lib.hid (ownsRow_setB hV5.out (p := ⟨w.heap.size, 1, none⟩) (Nat.lt_succ_self _) _), Lib.hid (bT5.out.setSame 1 _), Lib.hid (bw5.out.setCell (p := ⟨w.heap.size, 1, none⟩) (Nat.le_refl _) _)⟩
    · obtain rfl : k = n := by omega
      have hMH := Lib.hid hM
      obtain ⟨nt, hnt⟩ : ∃ nt, ts.length = nt := ⟨_, rfl⟩
      have hntH := Lib.hid hnt
      simp only at x1
      rw [hnt] at x1
      have hVH := hV.out
      rw [List.take_of_length_le (by rw [hlA.out]; exact Nat.le_refl _)] at hVH
      have hVF := Lib.hid hVH
      have hul : us.length = nt := hM.ti.len.trans hnt
      have hulH := Lib.hid hul
      have fb1 := fb 1
      rw [hnt] at hl
      clear hVH hul hnt hM x0 x2 fb hV
      go_wp2_with fail
      refine wp_region_ord [(0, .p), (1, .q), (2, .q), (3, .q), (4, .q), (5, .q), (6, .q), (7, .g), (8, .b), (9, .q), (10, .q), (11, .q), (12, .b)] (by kernel_rfl) (by kernel_rfl) ?_
      simp only [pick, List.filterMap_cons, List.filterMap_nil, List.getElem?_toArray, List.getElem?_cons_zero, List.getElem?_cons_succ, Option.map_some]
      repeat (first | ((with_reducible refine wpD_p (fun K hK => ?_)); go_simp; refine hK _ ?_; clear hK K) | ((with_reducible refine wpD_q (fun K hK => ?_)); go_simp; (first | refine hK _ ?_ | (go_bits; refine hK _ ?_) | (go_bits; go_simp; refine hK _ ?_)); clear hK K))
      with_reducible refine wpD_g (fun K hK => ?_)
      go_simp
      refine ⟨Grew.of_alloc _, hK _ _ ?_⟩
      clear hK K
      have hal : Below wr.heap.size wr (wr.drew.alloc (Obj.cells #[.string nm, .slice Av k cv] 73)) := bl_al (bl_dr (bl_refl _)) _
      have hM1 := hMH.out.below hal
      have hout := hM1.ti.outer
      simp only at hout
      rw [hulH.out, hntH.out] at hout
      refine wpD_append_atN rfl _ _ 23 rfl (b + 1) 73 iT (.agg #[.string ByteArray.empty, .slice none 0 0]) 2 40 Tryz.underlying23 hiT hT0 hT1 hT2 rfl (by decide) (.slice B2 nt c2) nt (flatC encNU ((ts.map Ti.name).zip us)) (by go_simp) hout ⟨wr.heap.size, 0, none⟩ 1 1 [.string nm, .slice Av k cv] (by go_simp) rfl (cell_two_newN _ _ _ _) (fun x hx => by simp at hx; rcases hx with rfl | rfl <;> rfl) (by unfold maxLen; omega) (by omega) (by simp; omega) ?_
      intro v5 w5 hown5 hgrow5 hat5
      obtain ⟨A5, c5, rfl⟩ := ownsRow_form hown5
      have hsl : (sidesG gs ss).length = k := by unfold sidesG; rw [List.length_map, hlA.out]
      have hxr : (wr.drew.alloc (Obj.cells #[.string nm, .slice Av k cv] 73)).ownsRow (b + 1) 2 1 (.slice Av k cv) (sidesG gs ss).length (flatC encI (sidesG gs ss)) := by
        rw [hsl]; exact ownsRow_lo (ownsRow_below hVF.out hal) (by omega)
      have hti1 : OwnT (wr.drew.alloc (Obj.cells #[.string nm, .slice Av k cv] 73)) (b + 1) 73 2 (.slice B2 nt c2) us ts := by
        have := hM1.ti
        simp only at this
        rw [hntH.out] at this
        exact this
      have hti5 := Lib.hid (hti1.push (t := ⟨nm, sidesG gs ss⟩) hulH.out hxr (fun g e => by
        have h1 := (hVF.out.lt g e).1
        refine ⟨fun e2 => ?_, fun j u hu e2 => ?_⟩
        · have e3 : (Value.slice B2 ts.length c2).ownBlock = some g := by rw [hntH.out]; exact e2
          have := (hH.out.ti.lt g e3).2; omega
        · have := (hH.out.ti.ltIn hu g e2).2; omega) hown5 hgrow5 hat5)
      have hgl5 := Lib.hid (ownsRow_keptO hM1.gl hout (by decide) hgrow5)
      have hno : ∀ g, (Value.slice B2 nt c2).ownBlock = some g → b + 1 ≤ g := fun g e => (hout.lt g e).1
      have hat5H := Lib.hid hat5
      have hmp5 := Lib.hid (hM1.mp.kept hgrow5 (fun e => by have := hno _ e.symm; omega))
      have hbx5 := Lib.hid (hM1.bx.grown hgrow5 (fun e => by have := hno _ e; omega))
      obtain ⟨M0, f0', hr0⟩ := hM1.ty
      have hr5 : w5.rowIs b 50 M0 f0' := hr0.of_block (hgrow5.block b hr0.lt (fun e => by have := hno _ e.symm; omega))
      have far5 := Lib.hid (((Far.of_below hbw.out).trans (Far.of_below hal)).trans (Far.grown (Ts := MkTs) hout hgrow5 (by simp [MkTs])))
      have bl5 := Lib.hid (((hbw.out.mono (Nat.le_of_lt (by omega : bm < w.heap.size))).trans (hal.mono (by omega))).grown hgrow5 (by simp; omega) (fun g e => by have := hno g e; omega))
      have bT5 := Lib.hid ((bT.out.below hal).grown hgrow5 (fun e => by
        have e3 : (Value.slice B2 ts.length c2).ownBlock = some w.heap.size := by rw [hntH.out]; exact e
        have := (hH.out.ti.lt _ e3).2; omega))
      have hr5H := Lib.hid hr5
      have z1 := hbx5.out.cell 1 _ rfl
      have zf := hbx5.out.froz 1
      have zl := hbx5.out.lt
      simp only at z1
      rw [hntH.out] at z1
      clear hown5 hgrow5 hat5 hxr hno hr0 hr5 hal hM1 hout y0 y1 fT lT x1 fb1 lb bT hbw
      repeat (first | ((with_reducible refine wpD_p (fun K hK => ?_)); go_simp; refine hK _ ?_; clear hK K) | ((with_reducible refine wpD_q (fun K hK => ?_)); go_simp; (first | refine hK _ ?_ | (go_bits; refine hK _ ?_) | (go_bits; go_simp; refine hK _ ?_)); clear hK K))
      with_reducible refine wpD_b (fun K hK => ?_)
      go_simp
      refine hK _ _ ?_
      clear hK K
      with_reducible refine wpD_nil ?_
      go_wp2
      refine bodyPost_ret (v := .int .i64 (nt : Int)) (by simp only [results, Tryz.results17]; go_simp) rfl ?_
      have hr6 := hr5H.out.set 1 (.slice A5 (nt + 1) c5)
      have hl6 : (ts ++ [(⟨nm, sidesG gs ss⟩ : Ti)]).length = nt + 1 := by rw [List.length_append, hntH.out]; rfl
      refine ⟨by rw [hntH.out], ⟨m, A1, c1, A5, c5, us ++ [.slice Av k cv], ?_⟩, far5.out.trans (Far.set hr5H.out (by simp [MkTs]) _), bl5.out.setCell (p := ⟨b, 1, none⟩) (show bm ≤ b by omega) _⟩
      refine ⟨?_, ⟨_, _, hr6⟩, ?_, ?_, ?_, hMH.out.le, hMH.out.lt, ?_⟩
      · show Bx _ b [.slice A1 gs.length c1, .slice A5 (ts ++ [(⟨nm, sidesG gs ss⟩ : Ti)]).length c5, .map (some bm)]
        rw [hl6]
        exact hbx5.out.setSame 1 _
      · exact ownsRow_setB hgl5.out (p := ⟨b, 1, none⟩) (Nat.lt_succ_self _) _
      · show OwnT _ (b + 1) 73 2 (.slice A5 (ts ++ [(⟨nm, sidesG gs ss⟩ : Ti)]).length c5) _ _
        rw [hl6]
        exact hti5.out.setBelow (p := ⟨b, 1, none⟩) (Nat.lt_succ_self _) _
      · exact hmp5.out.block (Below.heap_setCell _ _ _ _ (show bm ≠ b by omega))
      · intro g hg
        have hav := hMH.out.av g hg
        have hgl' := hXH.out g hg
        refine ⟨hav.1, ?_, fun j u hu => ?_⟩
        · show (Value.slice A5 (ts ++ [(⟨nm, sidesG gs ss⟩ : Ti)]).length c5).ownBlock ≠ some g
          rw [hl6]
          rcases hat5H.out with h | h
          · rw [h]
            have := hav.2.1
            simp only at this
            rw [hntH.out] at this
            exact this
          · rw [h]; intro e; injection e with e; simp at e; omega
        · rcases Nat.lt_or_ge j us.length with hj | hj
          · rw [List.getElem?_append_left hj] at hu
            exact hav.2.2 j u hu
          · have hlt := (List.getElem?_eq_some_iff.1 hu).1
            simp at hlt
            obtain rfl : j = us.length := by omega
            simp at hu
            subst hu
            intro e
            have := (hVF.out.lt g e).1
            omega
theorem tile_any (b bm : Nat) (st : List Gl × List Ti) (nm : ByteArray) (A : Option Addr) (n c : Nat) (ss : List ByteArray) (w : World) (h : Mkr w b bm st) (hA : RdSl 1 RNm w A n ss) (hz : nm.size ≤ 1000) (hzs : ∀ s ∈ ss, s.size ≤ 1000) (hn : n ≤ 1000) (hg : st.1.length ≤ 1000) (hl : st.2.length ≤ 1000) :
    Calls Tryz.prog 17 #[.pointer (some ⟨b, 0, none⟩), .string nm, .slice A n c] w fun e w' => e = .returned (.int .i64 (st.2.length : Int)) ∧ Mkr w' b bm (addT st nm ss) ∧ Far MkTs w w' ∧ Below bm w w' :=
  tileX_any _ b bm st nm A n c ss w h (fun g hg => hg.elim) hA hz hzs hn hg hl
end Go.Proofs.YtpnahobgmemdjaaGreatDoor
