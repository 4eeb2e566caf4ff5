/- The system of a machine; walks: machineSystem and MachineSystem of the program. -/
import Derived.Test.YtkiamhpapkgboaaDoorMq2
import Derived.Test.YtkiamhpapkgboaaDoorMq3
import Derived.Test.YtkiamhpapkgboaaDoorMr2
import Derived.Test.YtkiamhpapkgboaaDoorOrdFl
namespace Go.Proofs.YtkiamhpapkgboaaDoor
open Go.RowKit Go.Shelf
set_option linter.unusedSimpArgs false
set_option linter.unusedVariables false
attribute [local go_sem] BelowBy.cell BelowBy.cell_drew stillUpon givesUpon

/-- the system of a machine -/
def machS (Q S : Nat) (ms : List Mvm) (l : List Int) (h s : Nat) : Sy :=
  ⟨glG (cR Q S (l.length + 1)), tAll (glG (cG Q S)) Q S ms ++ rowT (glG (cR Q S (l.length + 1))) l h s, seedP (tAll (glG (cG Q S)) Q S ms).length (l.length + 2), 2⟩
def machR (Q S : Int) (ms : List Mvm) (l : List Int) (h s : Int) : Sy × Int :=
  if mcB Q S ms && cfB Q S l h s then (machS Q.toNat S.toNat ms l h.toNat s.toNat, 0) else noSy 1
/-- a machine and a configuration that are valid -/
structure McOk (Q S : Nat) (ms : List Mvm) (l : List Int) (h s : Nat) : Prop where
  kq : 1 ≤ Q ∧ Q ≤ 5
  ks : 1 ≤ S ∧ S ≤ 4
  kn : ms.length ≤ 20
  ok : ∀ v ∈ ms, OkMv Q S v
  new : allB ms.length (newM ms) = true
  km : 1 ≤ l.length ∧ l.length ≤ 12
  sy : ∀ a ∈ l, 0 ≤ a ∧ a < S
  kh : h < l.length
  st : s < Q
theorem mcOk_of {Q S h s : Int} {ms : List Mvm} {l : List Int} (h1 : mcB Q S ms = true) (h2 : cfB Q S l h s = true) : McOk Q.toNat S.toNat ms l h.toNat s.toNat ∧ ((Q.toNat : Int) = Q ∧ (S.toNat : Int) = S ∧ (h.toNat : Int) = h ∧ (s.toNat : Int) = s) := by
  unfold mcB at h1
  unfold cfB at h2
  simp only [Bool.and_eq_true, inB_true, decide_eq_true_eq] at h1 h2
  obtain ⟨q, s', hn, hok, hnew⟩ := h1
  obtain ⟨hm, hsy, hh, hs⟩ := h2
  refine ⟨⟨by omega, by omega, hn, fun v hv => ?_, hnew, by omega, fun a ha => ?_, by omega, by omega⟩, by omega, by omega, by omega, by omega⟩
  · obtain ⟨j, hj, rfl⟩ := List.mem_iff_getElem.1 hv
    have := allB_all hok j hj
    rw [okM_eq (List.getElem?_eq_getElem hj)] at this
    unfold okMvB at this
    simp only [Bool.and_eq_true, inB_true, Bool.or_eq_true, beq_iff_eq] at this
    obtain ⟨a1, a2, a3, a4, a5⟩ := this
    exact ⟨by omega, by omega, by omega, by omega, a5⟩
  · obtain ⟨j, hj, rfl⟩ := List.mem_iff_getElem.1 ha
    have := allB_all hsy j hj
    rw [symB_eq (List.getElem?_eq_getElem hj), inB_true] at this
    omega
theorem len_tAll (gs : List Gl) (Q S : Nat) (ms : List Mvm) : (tAll gs Q S ms).length = ms.length + Q * (2 * S) + 2 * S + 2 := by
  simp only [tAll, List.length_append, len_tMs, len_tIa, len_tEW, List.length_cons, List.length_nil]
theorem len_rowT (gs : List Gl) (l : List Int) (h s : Nat) : (rowT gs l h s).length = l.length + 2 := by
  simp only [rowT, List.length_append, len_tCs, List.length_cons, List.length_nil]; omega
theorem four_tlG (gs : List Gl) (c : Cd) (a b d e : Option Cd) : (tlG gs c [a, b, d, e]).sides.length = 4 := rfl
theorem four_tAll (gs : List Gl) (Q S : Nat) (ms : List Mvm) : Four (tAll gs Q S ms) := by
  intro t ht
  have hin : ∀ (q : Nat) (i : Nat) (t : Ti), t ∈ tIn gs q i → t.sides.length = 4 := by
    intro q i
    induction i with
    | zero => intro t h; cases h
    | succ i ih =>
      intro t h
      simp only [tIn, List.mem_append, List.mem_cons, List.not_mem_nil, or_false] at h
      rcases h with (h | rfl) | rfl
      · exact ih t h
      · rfl
      · rfl
  have hia : ∀ (q : Nat) (t : Ti), t ∈ tIa gs S q → t.sides.length = 4 := by
    intro q
    induction q with
    | zero => intro t h; cases h
    | succ q ih =>
      intro t h
      rcases List.mem_append.1 h with h | h
      · exact ih t h
      · exact hin q S t h
  have hew : ∀ (i : Nat) (t : Ti), t ∈ tEW gs i → t.sides.length = 4 := by
    intro i
    induction i with
    | zero => intro t h; cases h
    | succ i ih =>
      intro t h
      simp only [tEW, List.mem_append, List.mem_cons, List.not_mem_nil, or_false] at h
      rcases h with (h | rfl) | rfl
      · exact ih t h
      · rfl
      · rfl
  simp only [tAll, List.mem_append, List.mem_cons, List.not_mem_nil, or_false] at ht
  rcases ht with (((h | h) | h) | rfl) | rfl
  · obtain ⟨v, _, rfl⟩ := List.mem_map.1 h
    unfold tMv tlG
    rw [List.length_map]
    split <;> rfl
  · exact hia Q t h
  · exact hew S t h
  · rfl
  · rfl
theorem four_rowT (gs : List Gl) (l : List Int) (h s : Nat) : Four (rowT gs l h s) := by
  intro t ht
  have hc : ∀ (k : Nat) (t : Ti), t ∈ tCs gs l h s k → t.sides.length = 4 := by
    intro k
    induction k with
    | zero => intro t h; cases h
    | succ k ih =>
      intro t h
      simp only [tCs, List.mem_append, List.mem_cons, List.not_mem_nil, or_false] at h
      rcases h with h | rfl
      · exact ih t h
      · rfl
  simp only [rowT, List.mem_append, List.mem_cons, List.not_mem_nil, or_false] at ht
  rcases ht with (rfl | h) | rfl
  · rfl
  · exact hc _ t h
  · rfl
theorem machS_four (Q S : Nat) (ms : List Mvm) (l : List Int) (h s : Nat) : Four (machS Q S ms l h s).ts := by
  intro t ht
  rcases List.mem_append.1 ht with h | h
  · exact four_tAll _ _ _ _ t h
  · exact four_rowT _ _ _ _ t h
theorem mul_bd {Q S : Nat} (hQ : Q ≤ 5) (hS : S ≤ 4) : Q * (2 * S) ≤ 40 ∧ Q * (S + 1) ≤ 25 :=
  ⟨Nat.le_trans (Nat.mul_le_mul hQ (Nat.mul_le_mul_left 2 hS)) (by decide), Nat.le_trans (Nat.mul_le_mul hQ (Nat.succ_le_succ hS)) (by decide)⟩
theorem machS_len {Q S : Nat} {ms : List Mvm} {l : List Int} {h s : Nat} (hO : McOk Q S ms l h s) : (machS Q S ms l h s).gs.length ≤ 100 ∧ (machS Q S ms l h s).ts.length ≤ 100 ∧ (machS Q S ms l h s).xs.length ≤ 100 ∧ (tAll (glG (cG Q S)) Q S ms).length ≤ 80 := by
  have h1 := mul_bd hO.kq.2 hO.ks.2
  have h2 := hO.kq; have h3 := hO.ks; have h4 := hO.km; have h5 := hO.kn
  refine ⟨?_, ?_, ?_, ?_⟩
  · show (glG _).length ≤ 100
    rw [glG_len, len_cR]; omega
  · show (tAll (glG (cG Q S)) Q S ms ++ rowT (glG (cR Q S (l.length + 1))) l h s).length ≤ 100
    rw [List.length_append, len_tAll, len_rowT]; omega
  · show (seedP _ _).length ≤ 100
    simp only [seedP, List.length_map, List.length_range]; omega
  · rw [len_tAll]; omega
theorem machR_small (Q S : Int) (ms : List Mvm) (l : List Int) (h s : Int) : SmallSy (machR Q S ms l h s).1 := by
  unfold machR
  split
  · rename_i hv
    simp only [Bool.and_eq_true] at hv
    obtain ⟨hO, _⟩ := mcOk_of hv.1 hv.2
    obtain ⟨h1, h2, h3, _⟩ := machS_len hO
    exact ⟨Nat.le_trans h1 (by decide), Nat.le_trans h2 (by decide), Nat.le_trans h3 (by decide), machS_four _ _ _ _ _ _⟩
  · exact noSy_small 1
theorem Bx.of_rowF {W : World} {b : Nat} {l : List Value} {T : TypeId} (h : W.heap[b]? = some (.cells l.toArray T)) : Bx W b l := by
  have hl := (Array.getElem?_eq_some_iff.1 h).1
  refine ⟨hl, fun j u hu => ?_, fun j => by simp [World.frozen?, h]⟩
  simp only [World.cell?, h]
  simpa using hu
theorem cG_gU {Q S : Nat} {ms : List Mvm} {l : List Int} {h s : Nat} (hO : McOk Q S ms l h s) : ∀ d ∈ cG Q S, d ∈ gU := fun d hd => cR_gU hO.kq.2 hO.ks.2 (n := 0) (by decide) d (List.mem_append.2 (.inl hd))
/-- the program's system of a machine, or what it is told of it -/
def MsRes (w : World) (r : Sy) (e : Ending) (w' : World) : Prop :=
  ∃ A B C ca cb cc us, e = .returned (.agg #[.slice A r.gs.length ca, .slice B r.ts.length cb, .slice C r.xs.length cc, .int .i64 r.t]) ∧ OwnSy w' w.heap.size w'.heap.size A B C ca cb cc us r ∧ Below w.heap.size w w'
set_option maxRecDepth 100000 in
set_option maxHeartbeats 8000000 in
theorem machineSystem_any (Q S h s : Nat) (MA TA : Option Addr) (n mc m tc : Nat) (ms : List Mvm) (l : List Int) (w : World) (hm : RdSl 5 RMv w MA n ms) (ht : RdSl 1 RInt w TA m l) (hO : McOk Q S ms l h s) (hT : Tab w) :
    Calls Tryd.prog 30 #[.agg #[.int .i64 (Q : Int), .int .i64 (S : Int), .slice MA n mc], .agg #[.slice TA m tc, .int .i64 (h : Int), .int .i64 (s : Int)]] w (MsRes w (machS Q S ms l h s)) := by
  have hOH := Lib.hid hO
  have hlenH := Lib.hid (machS_len hO)
  have hml := Lib.hid hm.len
  have htl := Lib.hid ht.len
  have hmH := Lib.hid hm
  have htH := Lib.hid ht
  have hTH := Lib.hid hT
  have hn20 : n ≤ 20 := by have := hO.kn; have := hm.len; omega
  have hm12 : m ≤ 12 := by have := hO.km.2; have := ht.len; omega
  clear hO hm ht hT
  obtain ⟨ts, hts⟩ : ∃ ts, tAll (glG (cG Q S)) Q S ms = ts := ⟨_, rfl⟩
  have htsH := Lib.hid hts
  have hts80 := Lib.hid (show ts.length ≤ 80 by rw [← hts]; exact hlenH.out.2.2.2)
  clear hts
  have hal : Below w.heap.size w (((w.alloc (Obj.cells #[.int .i64 (Q : Int), .int .i64 (S : Int), .slice MA n mc] 43)).alloc (Obj.cells #[.slice TA m tc, .int .i64 (h : Int), .int .i64 (s : Int)] 45)).alloc (Obj.cells #[.slice none 0 0, .slice none 0 0, .slice none 0 0, .int .i64 0] 38)) := bl_al (bl_al (bl_al (bl_refl _) _) _) _
  have bM0 := Lib.hid (((BxT.made w [.int .i64 (Q : Int), .int .i64 (S : Int), .slice MA n mc] 43).below (bl_al (bl_refl _) (Obj.cells #[.slice TA m tc, .int .i64 (h : Int), .int .i64 (s : Int)] 45))).below (bl_al (bl_refl _) (Obj.cells #[.slice none 0 0, .slice none 0 0, .slice none 0 0, .int .i64 0] 38)))
  have bC0 := Lib.hid ((BxT.made (w.alloc (Obj.cells #[.int .i64 (Q : Int), .int .i64 (S : Int), .slice MA n mc] 43)) [.slice TA m tc, .int .i64 (h : Int), .int .i64 (s : Int)] 45).below (bl_al (bl_refl _) (Obj.cells #[.slice none 0 0, .slice none 0 0, .slice none 0 0, .int .i64 0] 38)))
  have bS0 := Lib.hid (BxT.made ((w.alloc (Obj.cells #[.int .i64 (Q : Int), .int .i64 (S : Int), .slice MA n mc] 43)).alloc (Obj.cells #[.slice TA m tc, .int .i64 (h : Int), .int .i64 (s : Int)] 45)) [.slice none 0 0, .slice none 0 0, .slice none 0 0, .int .i64 0] 38)
  simp only [World.size_alloc] at bC0 bS0
  have hsz0 : (((w.alloc (Obj.cells #[.int .i64 (Q : Int), .int .i64 (S : Int), .slice MA n mc] 43)).alloc (Obj.cells #[.slice TA m tc, .int .i64 (h : Int), .int .i64 (s : Int)] 45)).alloc (Obj.cells #[.slice none 0 0, .slice none 0 0, .slice none 0 0, .int .i64 0] 38)).heap.size = w.heap.size + 3 := by simp
  go_enter Tryd.func30, Tryd.ntmps30
  go_wp2_with fail
  obtain ⟨w0, hw0⟩ : ∃ w0, w0 = ((w.alloc (Obj.cells #[.int .i64 (Q : Int), .int .i64 (S : Int), .slice MA n mc] 43)).alloc (Obj.cells #[.slice TA m tc, .int .i64 (h : Int), .int .i64 (s : Int)] 45)).alloc (Obj.cells #[.slice none 0 0, .slice none 0 0, .slice none 0 0, .int .i64 0] 38) := ⟨_, rfl⟩
  have hz0 : w.heap.size + 3 ≤ w0.heap.size := by rw [hw0, hsz0]; exact Nat.le_refl _
  simp only [List.toArray] at bM0 bC0 bS0
  rw [← hw0] at hal bM0 bC0 bS0 ⊢
  have halH := Lib.hid hal
  have y0 := bM0.out.1.cell 0 _ rfl
  have y1 := bM0.out.1.cell 1 _ rfl
  have y2 := bM0.out.1.cell 2 _ rfl
  have ly := bM0.out.1.lt
  clear hal hw0 hsz0
  refine wp_region_fl 3 [(1, .q), (0, .g), (2, .q)] [(4, .b)] _ (Obj.cells #[.pointer none, .int .i64 0, .int .i64 0, .slice none 0 0] 104) (by kernel_rfl) (by kernel_rfl) (by kernel_rfl) (by kernel_rfl) rfl (fun a w => ⟨rfl, by unfold flPtr; go_simp⟩) ?_
  simp only [pick, List.filterMap_cons, List.filterMap_nil, List.getElem?_toArray, List.getElem?_cons_zero, List.getElem?_cons_succ, Option.map_some]
  repeat (first | ((with_reducible refine wpL_p (fun K hK => ?_)); go_simp; refine hK _ ?_; clear hK K) | ((with_reducible refine wpL_q (fun K hK => ?_)); go_simp; (first | refine hK _ ?_ | (go_bits; refine hK _ ?_) | (go_bits; go_simp; refine hK _ ?_)); clear hK K))
  with_reducible refine wpL_g rfl (fun K hK st4 u4 mv4 => ?_)
  have hu4 := mv4.below
  have fu4 := (FlAt.none (Obj.cells #[.pointer none, .int .i64 0, .int .i64 0, .slice none 0 0] 104) (World.drew w0)).mv mv4
  have j4 : Below w0.heap.size w0 u4 := (Below.refl _ w0).drew.trans (hu4.mono (Nat.le_refl _))
  clear mv4
  go_simp
  refine (newMaker_any _).mono ?_
  rintro e w2 ⟨b, bm, rfl, hM2, hbm, hb2⟩
  refine ⟨_, rfl, hb2, hK _ _ _ ?_⟩
  clear hK K
  have fd4 := fu4.below hb2
  have j5 : Below w0.heap.size w0 w2 := j4.trans (hb2.mono j4.size)
  repeat (first | ((with_reducible refine wpL_p (fun K hK => ?_)); go_simp; refine hK _ ?_; clear hK K) | ((with_reducible refine wpL_q (fun K hK => ?_)); go_simp; (first | refine hK _ ?_ | (go_bits; refine hK _ ?_) | (go_bits; go_simp; refine hK _ ?_)); clear hK K))
  with_reducible refine wpL_nil (fun b12 w5 mvF => ?_)
  have huF := mvF.below
  obtain ⟨fl9, fb9⟩ := (fd4.mv mvF).2 _ rfl
  have j8 : Below w0.heap.size w0 w5 := j5.trans (huF.mono j5.size)
  clear mvF
  simp only [World.size_drew] at fl9
  have rF : w5.rowIs b12 104 4 (fun i => (#[.pointer none, .int .i64 0, .int .i64 0, .slice none 0 0] : Array Value).getD i undef) := ⟨_, fb9, rfl, fun i hi => by simp [hi]⟩
  have hbmw : w.heap.size + 3 ≤ bm := by have := j4.size; omega
  have hM5 := Lib.hid (hM2.below huF)
  have bX5 : Hid (Bx w5 b12 [.pointer none, .int .i64 0, .int .i64 0, .slice none 0 0]) := Lib.hid (Bx.of_rowF fb9)
  have rFH := Lib.hid rF
  have x0 := rF.frozen 0
  have x1 := rF.frozen 1
  have x2 := rF.frozen 2
  have x3 := rF.frozen 3
  have lx := bX5.out.lt
  have v0 := bX5.out.cell 0 _ rfl
  have v1 := bX5.out.cell 1 _ rfl
  have v2 := bX5.out.cell 2 _ rfl
  have v3 := bX5.out.cell 3 _ rfl
  have hj8 := Lib.hid j8
  have bM5 := Lib.hid (bM0.out.below j8)
  have bC5 := Lib.hid (bC0.out.below j8)
  have bS5 := Lib.hid (bS0.out.below j8)
  clear fu4 fd4 hu4 huF hb2 j4 j5 j8 fb9 rF y0 y1 y2 ly hM2 hbm
  simp only [flPtr]
  with_reducible refine wpD_b (fun K hK => ?_)
  go_simp
  refine hK _ _ ?_
  clear hK K
  repeat (first | ((with_reducible refine wpD_p (fun K hK => ?_)); go_simp; refine hK _ ?_; clear hK K) | ((with_reducible refine wpD_q (fun K hK => ?_)); go_simp; (first | refine hK _ ?_ | (go_bits; refine hK _ ?_) | (go_bits; go_simp; refine hK _ ?_)); clear hK K))
  with_reducible refine wpD_nil ?_
  have hXl := bX5.out.lt
  obtain ⟨w6, hw6⟩ : ∃ w6, w6 = (((w5.setCell ⟨b12, 0, none⟩ (.pointer (some ⟨b, 0, none⟩))).setCell ⟨b12, 1, none⟩ (.int .i64 (Q : Int))).setCell ⟨b12, 2, none⟩ (.int .i64 (S : Int))).setCell ⟨b12, 3, none⟩ (.slice MA n mc) := ⟨_, rfl⟩
  have bX6 : BxT w6 b12 104 [.pointer (some ⟨b, 0, none⟩), .int .i64 (Q : Int), .int .i64 (S : Int), .slice MA n mc] := by
    rw [hw6]
    exact ⟨(((bX5.out.setSame 0 _).setSame 1 _).setSame 2 _).setSame 3 _, _, _, (((rFH.out.set 0 _).set 1 _).set 2 _).set 3 _⟩
  have hne : 108 ≠ 104 ∧ 87 ≠ 104 ∧ 91 ≠ 104 ∧ 2 ≠ 104 := by decide
  have hM6 : Mkr w6 b bm ([], []) := by
    rw [hw6]
    exact MkrX.setT (MkrX.setT (MkrX.setT (MkrX.setT hM5.out rFH.out hne _) (rFH.out.set 0 _) hne _) ((rFH.out.set 0 _).set 1 _) hne _) (((rFH.out.set 0 _).set 1 _).set 2 _) hne _
  have hg9 : w0.heap.size ≤ b12 := fl9
  have hb6 : Below w0.heap.size w0 w6 := by
    rw [hw6]
    exact (((hj8.out.setCell (p := ⟨b12, 0, none⟩) hg9 _).setCell (p := ⟨b12, 1, none⟩) hg9 _).setCell (p := ⟨b12, 2, none⟩) hg9 _).setCell (p := ⟨b12, 3, none⟩) hg9 _
  have bM6 : BxT w6 w.heap.size 43 [.int .i64 (Q : Int), .int .i64 (S : Int), .slice MA n mc] := bM0.out.below hb6
  have bC6 : BxT w6 (w.heap.size + 1) 45 [.slice TA m tc, .int .i64 (h : Int), .int .i64 (s : Int)] := bC0.out.below hb6
  have bS6 : BxT w6 (w.heap.size + 1 + 1) 38 [.slice none 0 0, .slice none 0 0, .slice none 0 0, .int .i64 0] := bS0.out.below hb6
  have hbw6 : Below w.heap.size w w6 := halH.out.trans (hb6.mono (by omega))
  have hbmw' : w.heap.size ≤ bm := by omega
  have hT6 : TabB bm w6 := TabB.of hTH.out hbw6 hbmw'
  have hA6 : ∀ w', Below bm w6 w' → RdSl 5 RMv w' MA n ms := fun w' hb => hmH.out.below RMv.stable (hbw6.trans (hb.mono hbmw'))
  have hC6 : ∀ w', Below bm w6 w' → RdSl 1 RInt w' TA m l := fun w' hb => htH.out.below RInt.stable (hbw6.trans (hb.mono hbmw'))
  rw [← hw6]
  have bX6H := Lib.hid bX6
  have hM6H := Lib.hid hM6
  have bM6H := Lib.hid bM6
  have bC6H := Lib.hid bC6
  have bS6H := Lib.hid bS6
  have hbw6H := Lib.hid hbw6
  have hT6H := Lib.hid hT6
  have hA6H := Lib.hid hA6
  have hC6H := Lib.hid hC6
  have q0 := bX6.1.cell 0 _ rfl
  have q1 := bX6.1.cell 1 _ rfl
  have q2 := bX6.1.cell 2 _ rfl
  have q3 := bX6.1.cell 3 _ rfl
  have lq := bX6.1.lt
  have hgl := Lib.hid (show (glG (cG Q S)).length ≤ 1000 by rw [glG_len]; have := hlenH.out; have := mul_bd hOH.out.kq.2 hOH.out.ks.2; have := hOH.out.ks; simp only [cG, List.length_append, len_cA, len_cM, len_cB]; omega)
  clear hw6 bX6 hM6 hb6 bM6 bC6 bS6 hbw6 hT6 hA6 hC6 x0 x1 x2 x3 v0 v1 v2 v3 lx hXl hj8 bM5 bC5 bS5 hM5 bX5 rFH bM0 bC0 bS0 halH hne hg9 fl9
  go_wp2_with fail
  refine (glues_any b bm Q S n mc MA _ hM6H.out hOH.out.kq.2 hOH.out.ks.2 hT6H.out).mono ?_
  rintro e w7 ⟨rfl, hM7, hF7, hB7⟩
  have hM7H := Lib.hid hM7
  have bX7 := Lib.hid (bX6H.out.far hF7 (by decide) hB7)
  have bM7 := Lib.hid (bM6H.out.far hF7 (by decide) hB7)
  have bC7 := Lib.hid (bC6H.out.far hF7 (by decide) hB7)
  have bS7 := Lib.hid (bS6H.out.far hF7 (by decide) hB7)
  have hB7H := Lib.hid hB7
  have q0 := bX7.out.1.cell 0 _ rfl
  have q1 := bX7.out.1.cell 1 _ rfl
  have q2 := bX7.out.1.cell 2 _ rfl
  have q3 := bX7.out.1.cell 3 _ rfl
  have lq := bX7.out.1.lt
  clear hM7 hF7 hB7 bX6H bM6H bC6H bS6H hM6H
  go_wp2_with fail
  refine (tiles_any b bm Q S n mc MA (glG (cG Q S)) ms _ hM7H.out (fun w' hb => hA6H.out w' (hB7H.out.trans hb)) hOH.out.ok hOH.out.kq.2 hOH.out.ks.2 hn20 hgl.out (num_dash (cG_gU hOH.out)).1 (hT6H.out.below hB7H.out)).mono ?_
  rintro e w8 ⟨rfl, hM8, hF8, hB8⟩
  rw [htsH.out] at hM8
  have hM8H := Lib.hid hM8
  have bX8 := Lib.hid (bX7.out.far hF8 (by decide) hB8)
  have bM8 := Lib.hid (bM7.out.far hF8 (by decide) hB8)
  have bC8 := Lib.hid (bC7.out.far hF8 (by decide) hB8)
  have bS8 := Lib.hid (bS7.out.far hF8 (by decide) hB8)
  have hB8H := Lib.hid (hB7H.out.trans hB8)
  have q0 := bX8.out.1.cell 0 _ rfl
  have q1 := bX8.out.1.cell 1 _ rfl
  have q2 := bX8.out.1.cell 2 _ rfl
  have q3 := bX8.out.1.cell 3 _ rfl
  have lq := bX8.out.1.lt
  have r0 := bC8.out.1.cell 0 _ rfl
  have r1 := bC8.out.1.cell 1 _ rfl
  have r2 := bC8.out.1.cell 2 _ rfl
  have lr := bC8.out.1.lt
  clear hM8 hF8 hB8 bX7 bM7 bC7 bS7 hM7H hB7H
  have hl8 := hM8H.out.lt
  have hkh : h < m := by have := hOH.out.kh; have := htl.out; omega
  go_wp2_with fail
  refine (row_any b bm Q S n mc m tc h s MA TA ts l _ hM8H.out (fun w' hb => hC6H.out w' (hB8H.out.trans hb)) hOH.out.sy hOH.out.kq.2 hOH.out.ks.2 hm12 hkh hOH.out.st (Nat.le_trans hts80.out (by decide)) (hT6H.out.below hB8H.out)).mono ?_
  rintro e w9 ⟨C, cc, rfl, hM9, hrow9, hF9, hB9⟩
  have bX9 := Lib.hid (bX8.out.far hF9 (by decide) hB9)
  have bS9 := Lib.hid (bS8.out.far hF9 (by decide) hB9)
  obtain ⟨n9, A1, c1, B2, c2, us, hA9⟩ := hM9
  have e0 := hA9.bx.cell 0 _ rfl
  have e1 := hA9.bx.cell 1 _ rfl
  have e2 := hA9.bx.cell 2 _ rfl
  have le := hA9.bx.lt
  have q0 := bX9.out.1.cell 0 _ rfl
  have lq := bX9.out.1.lt
  have g0 := bS9.out.1.cell 0 _ rfl
  have g1 := bS9.out.1.cell 1 _ rfl
  have g2 := bS9.out.1.cell 2 _ rfl
  have g3 := bS9.out.1.cell 3 _ rfl
  have gf := bS9.out.1.froz
  have lg := bS9.out.1.lt
  have hs8 := hB8H.out.size
  have hs6 := hbw6H.out.size
  have hbw9 := Lib.hid (hbw6H.out.trans ((hB8H.out.trans hB9).mono hbmw'))
  obtain ⟨gs, hgs⟩ : ∃ gs, glG (cR Q S (l.length + 1)) = gs := ⟨_, rfl⟩
  rw [hgs] at hA9 e0 e1
  obtain ⟨tt, htt⟩ : ∃ tt, ts ++ rowT gs l h s = tt := ⟨_, rfl⟩
  rw [htt] at hA9 e1
  obtain ⟨ng, hng⟩ : ∃ ng, gs.length = ng := ⟨_, rfl⟩
  obtain ⟨nt, hnt⟩ : ∃ nt, tt.length = nt := ⟨_, rfl⟩
  obtain ⟨nx, hnx⟩ : ∃ nx, l.length + 2 = nx := ⟨_, rfl⟩
  simp only at e0 e1
  rw [hng] at e0
  rw [hnt] at e1
  have hS := Lib.hid (show machS Q S ms l h s = ⟨gs, tt, seedP ts.length nx, 2⟩ by rw [machS, htsH.out, hgs, htt, hnx])
  have hngH := Lib.hid hng
  have hntH := Lib.hid hnt
  have hnxH := Lib.hid hnx
  rw [hnx] at hrow9
  rw [hnx]
  have hA9H := Lib.hid hA9
  have hrow9H := Lib.hid hrow9
  clear hA9 hrow9 hF9 hB9 bX8 bM8 bC8 bS8 hM8H hgs htt hng hnt hnx
  go_wp2_with fail
  have jb : Below w9.heap.size w9 (w9.alloc (Obj.cells #[.slice C nx cc] 36)).drew := bl_dr (bl_al (bl_refl _) _)
  obtain ⟨wA, hwA⟩ : ∃ wA, wA = w9.alloc (Obj.cells #[.slice C nx cc] 36) := ⟨_, rfl⟩
  have k0 : wA.cell? ⟨w9.heap.size, 0, none⟩ = some (.slice C nx cc) := by rw [hwA]; go_simp
  have lk : w9.heap.size < wA.heap.size := by rw [hwA]; simp
  have jA : Below w9.heap.size w9 wA := by rw [hwA]; exact bl_al (bl_refl _) _
  rw [← hwA] at jb ⊢
  have e0 := (jA.cell (p := ⟨b, 0, none⟩) le).trans e0
  have e1 := (jA.cell (p := ⟨b, 1, none⟩) le).trans e1
  have le := Nat.lt_of_lt_of_le le jA.size
  have q0 := (jA.cell (p := ⟨b12, 0, none⟩) lq).trans q0
  have lq := Nat.lt_of_lt_of_le lq jA.size
  have bSA := Lib.hid (bS9.out.below jA)
  have g0 := bSA.out.1.cell 0 _ rfl
  have g1 := bSA.out.1.cell 1 _ rfl
  have g2 := bSA.out.1.cell 2 _ rfl
  have g3 := bSA.out.1.cell 3 _ rfl
  have gf := bSA.out.1.froz
  have lg := bSA.out.1.lt
  clear hwA jA
  refine wp_region_ord [(0, .q), (1, .q), (2, .q), (3, .q), (4, .q), (5, .q), (6, .q), (7, .b)] (by kernel_rfl) (by kernel_rfl) ?_
  simp only [pick, List.filterMap_cons, List.filterMap_nil, List.getElem?_toArray, List.getElem?_cons_zero, List.getElem?_cons_succ, Option.map_some]
  repeat (first | ((with_reducible refine wpD_p (fun K hK => ?_)); go_simp; refine hK _ ?_; clear hK K) | ((with_reducible refine wpD_q (fun K hK => ?_)); go_simp; (first | refine hK _ ?_ | (go_bits; refine hK _ ?_) | (go_bits; go_simp; refine hK _ ?_)); clear hK K))
  with_reducible refine wpD_b (fun K hK => ?_)
  go_simp
  refine hK _ _ ?_
  clear hK K
  repeat (first | ((with_reducible refine wpD_p (fun K hK => ?_)); go_simp; refine hK _ ?_; clear hK K) | ((with_reducible refine wpD_q (fun K hK => ?_)); go_simp; (first | refine hK _ ?_ | (go_bits; refine hK _ ?_) | (go_bits; go_simp; refine hK _ ?_)); clear hK K))
  with_reducible refine wpD_nil ?_
  go_wp2
  refine bodyPost_ret (v := .agg #[.slice A1 ng c1, .slice B2 nt c2, .slice C nx cc, .int .i64 2]) (by simp only [results, Tryd.results30]; go_simp) rfl ?_
  rw [hS.out]
  have hn := hngH.out
  subst hn
  have hn := hntH.out
  subst hn
  have hxl : (seedP ts.length nx).length = nx := by simp [seedP]
  refine ⟨A1, B2, C, c1, c2, cc, us, ?_, ?_, ?_⟩
  · show _ = Ending.returned (.agg #[.slice A1 gs.length c1, .slice B2 tt.length c2, .slice C (seedP ts.length nx).length cc, .int .i64 2])
    rw [hxl]
  · have hsz9 := jb.size
    have hb9 := hbw9.out.size
    have hz : w.heap.size + 1 + 1 < w.heap.size + 3 := by omega
    have hlb : bm < b := hA9H.out.lt
    have hgl : wA.drew.ownsRow (w.heap.size + 3) 87 2 (.slice A1 gs.length c1) gs.length (flatC encGl gs) := ownsRow_lo (ownsRow_below hA9H.out.gl jb) (by omega)
    have hti : OwnT wA.drew (w.heap.size + 3) 91 2 (.slice B2 tt.length c2) us tt := (hA9H.out.ti.below jb).rebase (by omega)
    have hpl : wA.drew.ownsRow (w.heap.size + 3) 95 3 (.slice C (seedP ts.length nx).length cc) (seedP ts.length nx).length (plCells (seedP ts.length nx)) := by
      rw [hxl]; exact ownsRow_lo (ownsRow_below hrow9H.out jb) (by omega)
    refine OwnSy.of (base := w.heap.size + 3) (by omega) (by simp at hsz9 ⊢; omega) (row_set4 hgl hz _ _ _ _) (hti.set4 hz _ _ _ _) (row_set4 hpl hz _ _ _ _) ?_
    have := machS_four Q S ms l h s
    rw [hS.out] at this
    exact this
  · have hz : w.heap.size ≤ w.heap.size + 1 + 1 := by omega
    exact ((((hbw9.out.trans (jb.mono hbw9.out.size)).setCell (p := ⟨w.heap.size + 1 + 1, 0, none⟩) hz _).setCell (p := ⟨w.heap.size + 1 + 1, 1, none⟩) hz _).setCell (p := ⟨w.heap.size + 1 + 1, 2, none⟩) hz _).setCell (p := ⟨w.heap.size + 1 + 1, 3, none⟩) hz _
set_option maxRecDepth 100000 in
set_option maxHeartbeats 8000000 in
theorem MachineSystem_any (Q S h s : Int) (MA TA : Option Addr) (n mc m tc : Nat) (ms : List Mvm) (l : List Int) (w : World) (hm : RdSl 5 RMv w MA n ms) (ht : RdSl 1 RInt w TA m l) (hn : n ≤ 1073741824) (hmn : m ≤ 1073741824) (hT : Tab w) :
    Calls Tryd.prog 9 #[.agg #[.int .i64 Q, .int .i64 S, .slice MA n mc], .agg #[.slice TA m tc, .int .i64 h, .int .i64 s]] w (SyRes w (machR Q S ms l h s)) := by
  have hmH := Lib.hid hm
  have htH := Lib.hid ht
  have hTH := Lib.hid hT
  clear hm ht hT
  obtain ⟨v, hv⟩ : ∃ v, (mcB Q S ms && cfB Q S l h s) = v := ⟨_, rfl⟩
  have hvH := Lib.hid hv
  cases v
  · have hr := Lib.hid (show noSy 1 = machR Q S ms l h s by unfold machR; rw [hv]; rfl)
    clear hv
    go_enter Tryd.func9, Tryd.ntmps9
    go_wp2_with fail
    refine (ValidConfig_any Q S h s MA TA n mc m tc ms l _ (hmH.out.below RMv.stable (bl_al (bl_al (bl_al (bl_refl _) _) _) _)) (htH.out.below RInt.stable (bl_al (bl_al (bl_al (bl_refl _) _) _) _)) hn hmn false hvH.out).mono ?_
    rintro e w1 ⟨rfl, hb1⟩
    obtain ⟨chb1, fhb1, shb1, thb1⟩ := bcell hb1
    have hbH := Lib.hid (show Below w.heap.size w w1 from (bl_al (bl_al (bl_al (bl_refl w) _) _) _).trans (hb1.mono (by simp; omega)))
    have b3 := shb1 (w.heap.size + 1 + 1) (by go_simp)
    clear hb1
    go_wp2
    refine bodyPost_ret (v := .tuple #[.agg #[.slice none 0 0, .slice none 0 0, .slice none 0 0, .int .i64 0], .int .i64 1]) (by simp only [results, Tryd.results9]; go_simp) rfl ?_
    exact SyRes.none_ hr.out (((((hbH.out.setCell (p := ⟨w.heap.size + 1 + 1, 0, none⟩) (by simp; omega) _).setCell (p := ⟨w.heap.size + 1 + 1, 1, none⟩) (by simp; omega) _).setCell (p := ⟨w.heap.size + 1 + 1, 2, none⟩) (by simp; omega) _).setCell (p := ⟨w.heap.size + 1 + 1, 3, none⟩) (by simp; omega) _))
  · simp only [Bool.and_eq_true] at hv
    obtain ⟨hO, q1, q2, q3, q4⟩ := mcOk_of hv.1 hv.2
    have hr := Lib.hid (show (machS Q.toNat S.toNat ms l h.toNat s.toNat, (0 : Int)) = machR Q S ms l h s by unfold machR; rw [hvH.out]; rfl)
    obtain ⟨Qn, hQn⟩ : ∃ k, Q.toNat = k := ⟨_, rfl⟩
    obtain ⟨Sn, hSn⟩ : ∃ k, S.toNat = k := ⟨_, rfl⟩
    obtain ⟨hn', hhn⟩ : ∃ k, h.toNat = k := ⟨_, rfl⟩
    obtain ⟨sn, hsn⟩ : ∃ k, s.toNat = k := ⟨_, rfl⟩
    rw [hQn, hSn, hhn, hsn] at hr hO
    rw [hQn] at q1
    rw [hSn] at q2
    rw [hhn] at q3
    rw [hsn] at q4
    subst q1 q2 q3 q4
    have hOH := Lib.hid hO
    clear hv hO hQn hSn hhn hsn
    go_enter Tryd.func9, Tryd.ntmps9
    go_wp2_with fail
    refine (ValidConfig_any (Qn : Int) (Sn : Int) (hn' : Int) (sn : Int) MA TA n mc m tc ms l _ (hmH.out.below RMv.stable (bl_al (bl_al (bl_al (bl_refl _) _) _) _)) (htH.out.below RInt.stable (bl_al (bl_al (bl_al (bl_refl _) _) _) _)) hn hmn true hvH.out).mono ?_
    rintro e w1 ⟨rfl, hb1⟩
    obtain ⟨chb1, fhb1, shb1, thb1⟩ := bcell hb1
    have hbH := Lib.hid (show Below w.heap.size w w1 from (bl_al (bl_al (bl_al (bl_refl w) _) _) _).trans (hb1.mono (by simp; omega)))
    have b1 := shb1 (w.heap.size) (by go_simp)
    have b2 := shb1 (w.heap.size + 1) (by go_simp)
    have b3 := shb1 (w.heap.size + 1 + 1) (by go_simp)
    clear hb1
    go_wp2_with fail
    refine (machineSystem_any Qn Sn hn' sn MA TA n mc m tc ms l _ (hmH.out.below RMv.stable hbH.out) (htH.out.below RInt.stable hbH.out) hOH.out (hTH.out.below hbH.out)).mono ?_
    rintro e w2 ⟨A1, B1, C1, ca, cb, cc, us, rfl, hO2, hb2⟩
    obtain ⟨R, hR⟩ : ∃ R, machS Qn Sn ms l hn' sn = R := ⟨_, rfl⟩
    rw [hR] at hO2 hr
    rw [hR]
    obtain ⟨chb2, fhb2, shb2, thb2⟩ := bcell hb2
    have b4 := shb2 (w.heap.size + 1 + 1) b3
    have hbH2 := Lib.hid (hbH.out.trans (hb2.mono hbH.out.size))
    have hs1 := hbH.out.size
    obtain ⟨gs, ts, xl, tt⟩ := R
    simp only at hO2 ⊢
    obtain ⟨ng, hng⟩ : ∃ ng, gs.length = ng := ⟨_, rfl⟩
    obtain ⟨nt, hnt⟩ : ∃ nt, ts.length = nt := ⟨_, rfl⟩
    obtain ⟨nx, hnx⟩ : ∃ nx, xl.length = nx := ⟨_, rfl⟩
    rw [hng, hnt, hnx]
    have hngH := Lib.hid hng
    have hntH := Lib.hid hnt
    have hnxH := Lib.hid hnx
    have hOH2 := Lib.hid hO2
    clear hO2 hb2 hng hnt hnx hR
    go_wp2
    refine bodyPost_ret (v := .tuple #[.agg #[.slice A1 ng ca, .slice B1 nt cb, .slice C1 nx cc, .int .i64 tt], .int .i64 0]) (by simp only [results, Tryd.results9]; go_simp) rfl ?_
    rw [← hr.out]
    have hz : w.heap.size + 1 + 1 < w1.heap.size := b3
    have hn := hngH.out
    subst hn
    have hn := hntH.out
    subst hn
    have hn := hnxH.out
    subst hn
    refine ⟨A1, B1, C1, ca, cb, cc, us, rfl, ?_, ?_⟩
    · exact OwnSy.of (base := w1.heap.size) (by omega) (by simp; have := hbH2.out.size; omega) (row_set4 hOH2.out.g hz _ _ _ _) (hOH2.out.t.set4 hz _ _ _ _) (row_set4 hOH2.out.p hz _ _ _ _) hOH2.out.four
    · have hz2 : w.heap.size ≤ w.heap.size + 1 + 1 := by omega
      exact (((hbH2.out.setCell (p := ⟨w.heap.size + 1 + 1, 0, none⟩) hz2 _).setCell (p := ⟨w.heap.size + 1 + 1, 1, none⟩) hz2 _).setCell (p := ⟨w.heap.size + 1 + 1, 2, none⟩) hz2 _).setCell (p := ⟨w.heap.size + 1 + 1, 3, none⟩) hz2 _
end Go.Proofs.YtkiamhpapkgboaaDoor
