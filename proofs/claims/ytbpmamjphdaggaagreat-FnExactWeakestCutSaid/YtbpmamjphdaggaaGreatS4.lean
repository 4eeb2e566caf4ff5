/- Walks: the reference's net of some bonds is made. -/
import Derived.Test.YtbpmamjphdaggaaGreatS3
import Derived.Test.YtbpmamjphdaggaaGreatF5
import Derived.Test.YtbpmamjphdaggaaGreatOrdR
namespace Go.Proofs.YtbpmamjphdaggaaGreat
open Go.RowKit Go.Shelf
set_option linter.unusedSimpArgs false
set_option linter.unusedVariables false
attribute [local go_sem] ByR.cell ByR.cell_drew BelowBy.cell BelowBy.cell_drew stillUpon givesUpon BelowBy.cell_drew2 BelowBy.cell_drew3

/-- the net while it is made: any rows -/
structure SNetG (w0 w : World) (p n gF : Nat) (B : Option Addr) (m c : Nat) (rows : List (List Value)) (f : Nat → Int) (vA : Value) (uA : List Value) : Prop where
  lt : p < w.heap.size
  ge : w0.heap.size ≤ p
  c0 : w.cell? ⟨p, 0, none⟩ = some (.int .i64 (n : Int))
  c1 : w.cell? ⟨p, 1, none⟩ = some (.slice B m c)
  c2 : w.cell? ⟨p, 2, none⟩ = some vA
  c3 : w.cell? ⟨p, 3, none⟩ = some (.slice (some ⟨gF, 0, none⟩) m m)
  bw : Below w0.heap.size w0 w
  A : Own2 w w0.heap.size 31 2 1 vA uA rows
  fl : w.rowIs gF 2 m (fun i => .int .i64 (f i))
  gl : w0.heap.size ≤ gF
  off : ¬ InMat vA uA gF ∧ ¬ InMat vA uA p ∧ gF ≠ p
  len : uA.length = n
theorem inMat_set {v : Value} {us : List Value} {u b : Nat} {x v' : Value} (hx : us[u]? = some x) {c : Nat} (hat : v'.ownBlock = x.ownBlock ∨ v'.ownBlock = some c) (h : InMat v (us.set u v') b) : InMat v us b ∨ b = c := by
  rcases h with h | ⟨k, y, hy, h⟩
  · exact .inl (.inl h)
  · by_cases e : k = u
    · subst e
      rw [List.getElem?_set_self (List.getElem?_eq_some_iff.1 hx).1] at hy
      obtain rfl := Option.some.inj hy
      rcases hat with hat | hat
      · exact .inl (.inr ⟨k, x, hx, hat ▸ h⟩)
      · rw [hat] at h
        injection h with h
        exact .inr h.symm
    · rw [List.getElem?_set_ne (fun e' => e e'.symm)] at hy
      exact .inl (.inr ⟨k, y, hy, h⟩)
section
variable {w0 w w' w1 w2 : World} {p n gF : Nat} {B : Option Addr} {m c k : Nat} {rows : List (List Value)} {bs : List Bd} {f : Nat → Int} {vA : Value} {uA : List Value}
theorem SNetG.below (h : SNetG w0 w p n gF B m c rows f vA uA) (hb : Below w.heap.size w w') : SNetG w0 w' p n gF B m c rows f vA uA :=
  ⟨Nat.lt_of_lt_of_le h.lt hb.size, h.ge, (hb.cell (p := ⟨p, 0, none⟩) h.lt).trans h.c0, (hb.cell (p := ⟨p, 1, none⟩) h.lt).trans h.c1, (hb.cell (p := ⟨p, 2, none⟩) h.lt).trans h.c2, (hb.cell (p := ⟨p, 3, none⟩) h.lt).trans h.c3,
    h.bw.trans (hb.mono h.bw.size), h.A.below hb, h.fl.of_block (hb.block gF h.fl.lt), h.gl, h.off, h.len⟩
theorem SNetG.grow {u g cap n' : Nat} {x v' : Value} {r' : List Value} (h : SNetG w0 w p n gF B m c rows f (.slice (some ⟨g, 0, none⟩) n cap) uA) (hb1 : Below w.heap.size w w1) (hx : uA[u]? = some x)
    (hown : w2.ownsRow w0.heap.size 2 1 v' n' r') (hg : w1.grownBy w2 x.ownBlock) (hat : v'.ownBlock = x.ownBlock ∨ v'.ownBlock = some w1.heap.size) :
    SNetG w0 (w2.setCell ⟨g, u, none⟩ v') p n gF B m c (rows.set u r') f (.slice (some ⟨g, 0, none⟩) n cap) (uA.set u v') := by
  have h1 := h.below hb1
  have hgl := h1.A.lt g rfl
  have hxp : some p ≠ x.ownBlock := fun e => h.off.2.1 (.inr ⟨u, x, hx, e.symm⟩)
  have hxF : some gF ≠ x.ownBlock := fun e => h.off.1 (.inr ⟨u, x, hx, e.symm⟩)
  have hgp : g ≠ p := fun e => h.off.2.1 (.inl (by rw [e]; rfl))
  have hgF : g ≠ gF := fun e => h.off.1 (.inl (by rw [e]; rfl))
  have hb : (w2.setCell ⟨g, u, none⟩ v').heap[p]? = w1.heap[p]? := (Below.heap_setCell _ _ _ _ hgp.symm).trans (hg.block p h1.lt hxp)
  have hbF : (w2.setCell ⟨g, u, none⟩ v').heap[gF]? = w1.heap[gF]? := (Below.heap_setCell _ _ _ _ hgF.symm).trans (hg.block gF h1.fl.lt hxF)
  have hs := hg.size
  have hl := h1.lt
  have hF := h1.fl.lt
  refine ⟨by simp; omega, h.ge, (World.cell?_of_block (w := w1) (a := ⟨p, 0, none⟩) hb).trans h1.c0, (World.cell?_of_block (w := w1) (a := ⟨p, 1, none⟩) hb).trans h1.c1, (World.cell?_of_block (w := w1) (a := ⟨p, 2, none⟩) hb).trans h1.c2, (World.cell?_of_block (w := w1) (a := ⟨p, 3, none⟩) hb).trans h1.c3,
    (h1.bw.grown hg h1.bw.size (fun b e => (h1.A.ltIn hx b e).1)).setCell (p := ⟨g, u, none⟩) hgl.1 _, h1.A.grow h.len hx hown hg hat, h1.fl.of_block hbF, h.gl, ⟨fun hi => ?_, fun hi => ?_, h.off.2.2⟩, by rw [List.length_set]; exact h.len⟩
  · rcases inMat_set hx hat hi with h2 | h2
    · exact h.off.1 h2
    · omega
  · rcases inMat_set hx hat hi with h2 | h2
    · exact h.off.2.1 h2
    · omega
theorem SNetG.net (h : SNetG w0 w p n gF B m c (incRows bs k n) f vA uA) : SNet w0 w p n gF B m c k bs f vA uA := ⟨h.lt, h.ge, h.c0, h.c1, h.c2, h.c3, h.bw, h.A, h.fl, h.gl, h.off⟩
end
/-- n rows that hold nothing yet -/
theorem own2_zero {w : World} {base g n cap : Nat} {T E : TypeId} (h : w.ownsRow base T 1 (.slice (some ⟨g, 0, none⟩) n cap) n (List.replicate n (.slice none 0 0))) : Own2 w base T E 1 (.slice (some ⟨g, 0, none⟩) n cap) (List.replicate n (.slice none 0 0)) (List.replicate n []) := by
  have hg : ∀ {k : Nat} {u : Value}, (List.replicate n (Value.slice none 0 0))[k]? = some u → u = .slice none 0 0 := fun {k u} hu => by
    rw [List.getElem?_replicate] at hu
    split at hu
    · exact (Option.some.inj hu).symm
    · cases hu
  refine ⟨by simpa using h, by simp, fun k u r hu hr => ⟨0, ?_⟩, fun j k u u' b hu hu' hb _ => ?_, fun k u b hu hb => ?_⟩
  · rw [hg hu]
    rw [List.getElem?_replicate] at hr
    split at hr
    · rw [← Option.some.inj hr]; exact World.ownsRow_nil _ _ _ _
    · cases hr
  · rw [hg hu] at hb; cases hb
  · rw [hg hu] at hb; cases hb
theorem made_nils (n : Nat) : (madeCells #[Value.slice none 0 0] n).toList = List.replicate n (Value.slice none 0 0) := by
  apply List.ext_getElem?
  intro j
  by_cases hj : j < n
  · rw [Array.getElem?_toList, List.getElem?_replicate, if_pos hj]
    simp [madeCells, hj, Nat.mod_one]
  · rw [List.getElem?_eq_none (by rw [Array.length_toList, size_madeCells]; omega), List.getElem?_eq_none (by simp; omega)]
theorem incRows_zero (bs : List Bd) (n : Nat) : incRows bs 0 n = List.replicate n [] := by
  apply List.ext_getElem?
  intro j
  by_cases hj : j < n
  · rw [incRows_get hj, List.getElem?_replicate, if_pos hj]; simp [incL, intsI]
  · rw [List.getElem?_eq_none (by rw [incRows_len]; omega), List.getElem?_eq_none (by simp; omega)]
theorem incL_succ (bs : List Bd) (k u : Nat) : incL bs (k + 1) u = if incB bs u k = true then incL bs k u ++ [k] else incL bs k u := by
  unfold incL
  rw [List.range_succ, List.filter_append]
  by_cases h : incB bs u k = true
  · rw [if_pos h]; simp [h]
  · rw [if_neg h]
    have : incB bs u k = false := by simpa using h
    simp [this]
theorem incRows_succ {bs : List Bd} {k n : Nat} {e : Bd} (he : bs[k]? = some e) (ha : e.a < n) (hb : e.b < n) : incRows bs (k + 1) n = ((incRows bs k n).set e.a ((intsI (incL bs k e.a ++ [k])).map (Value.int .i64))).set e.b ((intsI (incL bs k e.b ++ [k])).map (Value.int .i64)) := by
  apply List.ext_getElem?
  intro j
  have hinc : ∀ u, incB bs u k = decide (e.a = u ∨ e.b = u) := fun u => by unfold incB; rw [he]
  by_cases hj : j < n
  · rw [incRows_get hj, incL_succ, hinc]
    by_cases h2 : e.b = j
    · subst h2
      rw [List.getElem?_set_self (by rw [List.length_set, incRows_len]; exact hj)]
      simp
    · rw [List.getElem?_set_ne h2]
      by_cases h1 : e.a = j
      · subst h1
        rw [List.getElem?_set_self (by rw [incRows_len]; exact hj)]
        simp
      · rw [List.getElem?_set_ne h1, incRows_get hj]
        simp [h1, h2]
  · rw [List.getElem?_eq_none (by rw [incRows_len]; omega), List.getElem?_eq_none (by simp [incRows_len]; omega)]
def NewRes (w : World) (n : Nat) (B : Option Addr) (m c : Nat) (bs : List Bd) (e : Ending) (w' : World) : Prop := ∃ p gF vA uA, e = .returned (.pointer (some ⟨p, 0, none⟩)) ∧ SNet w w' p n gF B m c bs.length bs (fun _ => 0) vA uA
set_option maxRecDepth 100000 in
set_option maxHeartbeats 4000000 in
theorem l07New_any (n : Nat) (B : Option Addr) (m c : Nat) (bs : List Bd) (w : World) (hB : RdSl 3 RBd w B m bs) (hb : BondsOk n bs) (hn0 : 0 < n) (hn : n ≤ 100000) (hm : m ≤ 100000) :
    Calls Tryz.prog 91 #[.int .i64 (n : Int), .slice B m c] w (NewRes w n B m c bs) := by
  obtain ⟨i0, hi, hz0, hz1, hz2⟩ := info_parts infoIs
  obtain ⟨i1, hi', hz0', hz1', hz2'⟩ := info_parts infoI
  have hmk := fun W => run_makeN (P := Tryz.prog) 31 2 _ 1 8 Tryz.underlying31 infoI m (by omega) (by omega) W
  have hmk2 := fun W => run_makeN (P := Tryz.prog) 89 31 _ 1 24 Tryz.underlying89 infoIs n (by omega) (by omega) W
  have hBH := Lib.hid hB
  have hbH := Lib.hid hb
  have hml := Lib.hid hB.len
  clear hB hb
  go_enter Tryz.func91, Tryz.ntmps91
  go_wp2
  go_loopg [6] m (fun gk i wr => ∃ (k : Nat) (cap : Nat) (uA : List Value), k + gk = m ∧ i = .int .i64 (k : Int) ∧ Hid (SNetG w wr w.heap.size n (w.heap.size + 2) B m c (incRows bs k n) (fun _ => 0) (.slice (some ⟨w.heap.size + 1, 0, none⟩) n cap) uA))
  case atStart =>
    refine ⟨0, n, List.replicate n (.slice none 0 0), by omega, rfl, Lib.hid ⟨by simp; omega, Nat.le_refl _, by go_simp, by go_simp, by go_simp, by go_simp, bl_al (bl_al (bl_al (bl_refl _) _) _) _, ?_, ?_, by omega, ⟨fun h => ?_, fun h => ?_, by omega⟩, by simp⟩⟩
    · rw [incRows_zero]
      refine own2_zero ?_
      have h := (World.ownsRow_lit (base := w.heap.size) (e := 31) (size := 1) (w.alloc (Obj.cells #[.int .i64 (n : Int), .slice B m c, .slice (some ⟨w.heap.size + 1, 0, none⟩) n n, .slice (some ⟨w.heap.size + 1 + 1, 0, none⟩) m m] 91)) (madeCells #[Value.slice none 0 0] n) n (by simp) (by unfold maxLen; omega) (by rw [size_madeCells, Nat.mul_one])).alloc (Obj.cells (madeCells #[Value.int .i64 0] m) 2)
      rw [made_nils] at h
      simpa using h
    · have h := World.rowIs_made ((w.alloc (Obj.cells #[.int .i64 (n : Int), .slice B m c, .slice (some ⟨w.heap.size + 1, 0, none⟩) n n, .slice (some ⟨w.heap.size + 1 + 1, 0, none⟩) m m] 91)).alloc (Obj.cells (madeCells #[Value.slice none 0 0] n) 31)) (.int .i64 0) m 2
      simpa using h
    · rcases h with h | ⟨k, u, hu, h⟩
      · have h2 : some (w.heap.size + 1) = some (w.heap.size + 2) := h
        injection h2 with h2; omega
      · rw [(List.mem_replicate.1 (List.mem_of_getElem? hu)).2] at h; cases h
    · rcases h with h | ⟨k, u, hu, h⟩
      · have h2 : some (w.heap.size + 1) = some w.heap.size := h
        injection h2 with h2; omega
      · rw [(List.mem_replicate.1 (List.mem_of_getElem? hu)).2] at h; cases h
  case round =>
    clear hmk hmk2
    obtain ⟨k, cap, uA, hk, rfl, hS⟩ := hrel
    by_cases hkm : k < m
    · obtain ⟨bb, ob, rfl, hbb, hbc⟩ := hBH.out.ptr (by omega)
      obtain ⟨e, he⟩ := hBH.out.get hkm
      obtain ⟨e0, e1, e2⟩ := hbc k e he
      have hea := hbH.out.a k e he
      have heb := hbH.out.b k e he
      have hne := hbH.out.ne k e he
      have hsucc := Lib.hid (incRows_succ (bs := bs) he hea heb)
      have hneH := Lib.hid hne
      clear hbc he hne
      have lpa := hS.out.lt
      have c1a := hS.out.c1
      have c2a := hS.out.c2
      have hsza := hS.out.bw.size
      have e0a := (hS.out.bw.cell (p := ⟨bb, _, none⟩) hbb).trans e0
      have e1a := (hS.out.bw.cell (p := ⟨bb, _, none⟩) hbb).trans e1
      have hbba : bb < wr.heap.size := by omega
      obtain ⟨xa, hxa⟩ : ∃ x, uA[e.a]? = some x := ⟨_, List.getElem?_eq_getElem (by rw [hS.out.len]; exact hea)⟩
      obtain ⟨caa, faa, lga⟩ := hS.out.A.cellAt hS.out.len hxa
      obtain ⟨qa, ra, hra, howna⟩ := hS.out.A.get hxa
      rw [incRows_get hea] at hra
      obtain rfl := Option.some.inj hra
      have hqa := howna.1
      simp only [List.length_map, intsI, Nat.mul_one] at hqa
      have hlla : (incL bs k e.a).length ≤ k := by
        have := List.length_filter_le (incB bs e.a) (List.range k)
        simpa [incL] using this
      have hqka : qa ≤ k := by omega
      obtain ⟨Aa', capa', rfl⟩ := ownsRow_form howna
      have hownaH := Lib.hid howna
      have hxaH := Lib.hid hxa
      obtain ⟨rowa, hrowa⟩ : ∃ row, (Value.slice Aa' qa capa').ownBlock = row := ⟨_, rfl⟩
      have r1a : ¬ some w.heap.size = rowa := fun h => hS.out.off.2.1 (.inr ⟨e.a, _, hxaH.out, hrowa.trans h.symm⟩)
      have r2a : ¬ some (w.heap.size + 1) = rowa := fun h => hS.out.A.off e.a _ _ hxaH.out (hrowa.trans h.symm) rfl
      have r3a : ¬ some bb = rowa := fun h => by
        have := (hS.out.A.ltIn hxaH.out bb (hrowa.trans h.symm)).1
        omega
      clear hxa howna hra hlla hqa
      go_wp2
      refine wp_region_row (rowa) [(0, .q), (1, .q), (2, .q), (3, .q), (4, .q), (5, .q), (6, .q), (7, .q), (8, .q), (9, .q), (10, .q), (11, .q), (12, .q), (13, .q), (14, .q), (15, .q), (16, .q), (17, .q), (18, .q), (19, .q), (20, .q), (21, .g), (22, .g), (23, .q), (24, .b)] (by kernel_rfl) (by kernel_rfl) ?_
      simp only [pick, List.filterMap_cons, List.filterMap_nil, List.getElem?_toArray, List.getElem?_cons_zero, List.getElem?_cons_succ, Option.map_some]
      repeat (first | ((with_reducible refine wpR_p (fun K hK => ?_)); go_simp; refine hK _ ?_; clear hK K) | ((with_reducible refine wpR_q (fun K hK => ?_)); go_simp; (first | refine hK _ ?_ | (go_bits; refine hK _ ?_) | (go_bits; go_simp; refine hK _ ?_)); clear hK K))
      with_reducible refine wpR_g (fun K hK => ?_)
      go_simp
      refine ⟨GrewR.of_alloc _, hK _ _ ?_⟩
      clear hK K
      have hba : Below wr.heap.size wr (wr.alloc (Obj.cells #[.int .i64 (k : Int)] 2)).drew := by repeat (first | with_reducible exact bl_refl _ | with_reducible assumption | with_reducible refine bl_al ?_ _ | with_reducible refine bl_dr ?_ | with_reducible refine bl_tr ?_ (by assumption) | with_reducible refine bl_set ?_ ?_ _ | with_reducible exact Nat.le_refl _ | omega | (simp only [World.size_alloc, World.size_setCell, World.size_drew] at *; omega) | (dsimp only; omega) | (simp; done) | (simp; omega))
      have hbaH := Lib.hid hba
      clear hba
      refine wpR_append_at rfl _ _ 31 rfl w.heap.size 2 i1 (.int .i64 0) 1 8 Tryz.underlying31 hi' hz0' hz1' hz2' rfl (by decide) (.slice Aa' qa capa') qa ((intsI (incL bs k e.a)).map (Value.int .i64)) (by go_simp) (ownsRow_below hownaH.out hbaH.out) hrowa ⟨wr.heap.size, 0, none⟩ 1 1 [.int .i64 (k : Int)] (by go_simp) rfl ?hnewsa (fun x hx => by simp at hx; subst hx; rfl) (by unfold maxLen; omega) (by omega) (by simp; omega) ?_
      case hnewsa =>
        have := cell_one_new wr (.int .i64 (k : Int)) 2
        simpa using this
      intro va wa3 howna hgrowa hata
      obtain ⟨Aa2, capa2, rfl⟩ := ownsRow_form howna
      have hSa2 := Lib.hid (hS.out.grow hbaH.out hxaH.out howna hgrowa hata)
      obtain ⟨caa2, faa2, lga2, _⟩ := (hS.out.below hbaH.out).A.after hS.out.len hxaH.out hgrowa
      clear howna hata caa faa
      repeat (first | ((with_reducible refine wpR_p (fun K hK => ?_)); go_simp; refine hK _ ?_; clear hK K) | ((with_reducible refine wpR_q (fun K hK => ?_)); go_simp; (first | refine hK _ ?_ | (go_bits; refine hK _ ?_) | (go_bits; go_simp; refine hK _ ?_)); clear hK K))
      with_reducible refine wpR_b (fun K hK => ?_)
      go_simp
      refine hK _ _ ?_
      clear hK K
      with_reducible refine wpR_nil ?_
      obtain ⟨W2, hW2⟩ : ∃ W2, W2 = wa3.setCell ⟨w.heap.size + 1, e.a, none⟩ (.slice Aa2 (qa + 1) capa2) := ⟨_, rfl⟩
      rw [← hW2] at hSa2 ⊢
      clear hW2 caa2 faa2 lga2 hgrowa hbaH hownaH
      have lpb := hSa2.out.lt
      have c1b := hSa2.out.c1
      have c2b := hSa2.out.c2
      have hszb := hSa2.out.bw.size
      have e0b := (hSa2.out.bw.cell (p := ⟨bb, _, none⟩) hbb).trans e0
      have e1b := (hSa2.out.bw.cell (p := ⟨bb, _, none⟩) hbb).trans e1
      have hbbb : bb < W2.heap.size := by omega
      obtain ⟨xb, hxb⟩ : ∃ x, (uA.set e.a (Value.slice Aa2 (qa + 1) capa2))[e.b]? = some x := ⟨_, List.getElem?_eq_getElem (by rw [hSa2.out.len]; exact heb)⟩
      obtain ⟨cab, fab, lgb⟩ := hSa2.out.A.cellAt hSa2.out.len hxb
      obtain ⟨qb, rb, hrb, hownb⟩ := hSa2.out.A.get hxb
      rw [List.getElem?_set_ne hneH.out, incRows_get heb] at hrb
      obtain rfl := Option.some.inj hrb
      have hqb := hownb.1
      simp only [List.length_map, intsI, Nat.mul_one] at hqb
      have hllb : (incL bs k e.b).length ≤ k := by
        have := List.length_filter_le (incB bs e.b) (List.range k)
        simpa [incL] using this
      have hqkb : qb ≤ k := by omega
      obtain ⟨Ab', capb', rfl⟩ := ownsRow_form hownb
      have hownbH := Lib.hid hownb
      have hxbH := Lib.hid hxb
      obtain ⟨rowb, hrowb⟩ : ∃ row, (Value.slice Ab' qb capb').ownBlock = row := ⟨_, rfl⟩
      have r1b : ¬ some w.heap.size = rowb := fun h => hSa2.out.off.2.1 (.inr ⟨e.b, _, hxbH.out, hrowb.trans h.symm⟩)
      have r2b : ¬ some (w.heap.size + 1) = rowb := fun h => hSa2.out.A.off e.b _ _ hxbH.out (hrowb.trans h.symm) rfl
      have r3b : ¬ some bb = rowb := fun h => by
        have := (hSa2.out.A.ltIn hxbH.out bb (hrowb.trans h.symm)).1
        omega
      clear hxb hownb hrb hllb hqb
      go_wp2
      refine wp_region_row (rowb) [(0, .q), (1, .q), (2, .q), (3, .q), (4, .q), (5, .q), (6, .q), (7, .q), (8, .q), (9, .q), (10, .q), (11, .q), (12, .q), (13, .q), (14, .q), (15, .q), (16, .q), (17, .q), (18, .q), (19, .q), (20, .q), (21, .g), (22, .g), (23, .q), (24, .b)] (by kernel_rfl) (by kernel_rfl) ?_
      simp only [pick, List.filterMap_cons, List.filterMap_nil, List.getElem?_toArray, List.getElem?_cons_zero, List.getElem?_cons_succ, Option.map_some]
      repeat (first | ((with_reducible refine wpR_p (fun K hK => ?_)); go_simp; refine hK _ ?_; clear hK K) | ((with_reducible refine wpR_q (fun K hK => ?_)); go_simp; (first | refine hK _ ?_ | (go_bits; refine hK _ ?_) | (go_bits; go_simp; refine hK _ ?_)); clear hK K))
      with_reducible refine wpR_g (fun K hK => ?_)
      go_simp
      refine ⟨GrewR.of_alloc _, hK _ _ ?_⟩
      clear hK K
      have hbb : Below W2.heap.size W2 (W2.alloc (Obj.cells #[.int .i64 (k : Int)] 2)).drew := by repeat (first | with_reducible exact bl_refl _ | with_reducible assumption | with_reducible refine bl_al ?_ _ | with_reducible refine bl_dr ?_ | with_reducible refine bl_tr ?_ (by assumption) | with_reducible refine bl_set ?_ ?_ _ | with_reducible exact Nat.le_refl _ | omega | (simp only [World.size_alloc, World.size_setCell, World.size_drew] at *; omega) | (dsimp only; omega) | (simp; done) | (simp; omega))
      have hbbH := Lib.hid hbb
      clear hbb
      refine wpR_append_at rfl _ _ 31 rfl w.heap.size 2 i1 (.int .i64 0) 1 8 Tryz.underlying31 hi' hz0' hz1' hz2' rfl (by decide) (.slice Ab' qb capb') qb ((intsI (incL bs k e.b)).map (Value.int .i64)) (by go_simp) (ownsRow_below hownbH.out hbbH.out) hrowb ⟨W2.heap.size, 0, none⟩ 1 1 [.int .i64 (k : Int)] (by go_simp) rfl ?hnewsb (fun x hx => by simp at hx; subst hx; rfl) (by unfold maxLen; omega) (by omega) (by simp; omega) ?_
      case hnewsb =>
        have := cell_one_new W2 (.int .i64 (k : Int)) 2
        simpa using this
      intro vb wb3 hownb hgrowb hatb
      obtain ⟨Ab2, capb2, rfl⟩ := ownsRow_form hownb
      have hSb2 := Lib.hid (hSa2.out.grow hbbH.out hxbH.out hownb hgrowb hatb)
      obtain ⟨cab2, fab2, lgb2, _⟩ := (hSa2.out.below hbbH.out).A.after hSa2.out.len hxbH.out hgrowb
      clear hownb hatb cab fab
      repeat (first | ((with_reducible refine wpR_p (fun K hK => ?_)); go_simp; refine hK _ ?_; clear hK K) | ((with_reducible refine wpR_q (fun K hK => ?_)); go_simp; (first | refine hK _ ?_ | (go_bits; refine hK _ ?_) | (go_bits; go_simp; refine hK _ ?_)); clear hK K))
      with_reducible refine wpR_b (fun K hK => ?_)
      go_simp
      refine hK _ _ ?_
      clear hK K
      with_reducible refine wpR_nil ?_
      go_wp2
      go_roundg (m - (k + 1))
      case measure => omega
      case rel =>
        have h := hSb2.out
        have hsn : ∀ l : List Nat, (intsI l).map (Value.int .i64) ++ [.int .i64 (k : Int)] = (intsI (l ++ [k])).map (Value.int .i64) := fun l => by simp [intsI]
        rw [hsn, hsn, ← hsucc.out] at h
        exact ⟨k + 1, _, _, by omega, by go_num, Lib.hid h⟩
    · obtain rfl : k = m := by omega
      go_wp2
      go_ret
      exact ⟨_, _, _, _, rfl, by rw [hml.out]; exact hS.out.net⟩
end Go.Proofs.YtbpmamjphdaggaaGreat
