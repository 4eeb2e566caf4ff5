/- Walks: copies of glues and of numbers; a signal set without its signals; its check. -/
import Derived.Test.YtbipnnjkddffbaaSg7
import Derived.Test.YtbipnnjkddffbaaSg2
import Derived.Test.YtbipnnjkddffbaaN3
import Derived.Test.YtbipnnjkddffbaaOrdApp
import Derived.Test.YtbipnnjkddffbaaW9
import Derived.Lib.LazyBuf
import Derived.Lib.SliceRun
namespace Go.Proofs.Ytbipnnjkddffbaa
open Go.RowKit Go.Shelf
set_option linter.unusedSimpArgs false
set_option linter.unusedVariables false
attribute [local go_sem] BelowBy.cell BelowBy.cell_drew stillUpon givesUpon

def OwnGls (w : World) (gs : List Gl) (e : Ending) (w' : World) : Prop := ∃ v, e = .returned v ∧ w'.ownsRow w.heap.size 123 2 v gs.length (flatC encGl gs) ∧ Below w.heap.size w w'
def OwnIs (w : World) (xs : List Int) (e : Ending) (w' : World) : Prop := ∃ v, e = .returned v ∧ w'.ownsRow w.heap.size 2 1 v xs.length (flatC encI xs) ∧ Below w.heap.size w w'
theorem nil_len {α : Type} {size : Nat} {R : World → Nat → Nat → α → Prop} {w : World} {n : Nat} {xs : List α} (h : RdSl size R w none n xs) : n = 0 ∧ xs = [] := by
  have h0 : n = 0 := by
    rcases Nat.eq_zero_or_pos n with h0 | h0
    · exact h0
    · obtain ⟨b, o, e, _⟩ := h.cells h0; cases e
  subst h0
  exact ⟨rfl, List.eq_nil_of_length_eq_zero h.len⟩
theorem glCells_of_rd {w : World} {b o : Nat} {xs : List Gl} (h : ∀ k e, xs[k]? = some e → RGl w b (o + k * 2) e) : ∀ j u, (flatC encGl xs)[j]? = some u → w.cell? ((⟨b, o, none⟩ : Addr).add j) = some u :=
  flatC_of_rd (by decide) encGl_len fun k e he j u hu => by
    obtain ⟨c0, c1⟩ := h k e he
    match j, hu with
    | 0, hu => simp [encGl] at hu; subst hu; exact c0
    | 1, hu => simp [encGl] at hu; subst hu; exact c1
    | j + 2, hu => simp [encGl] at hu
theorem iCells_of_rd {w : World} {b o : Nat} {xs : List Int} (h : ∀ k e, xs[k]? = some e → RInt w b (o + k * 1) e) : ∀ j u, (flatC encI xs)[j]? = some u → w.cell? ((⟨b, o, none⟩ : Addr).add j) = some u :=
  flatC_of_rd (by decide) encI_len fun k e he j u hu => by
    have c0 := h k e he
    match j, hu with
    | 0, hu => simp [encI] at hu; subst hu; exact c0
    | j + 1, hu => simp [encI] at hu
/-- the cells of a row that reads, behind one laying -/
theorem cl_of_gl {w : World} {ad : Addr} {n : Nat} {xs : List Gl} (h : RdSl 2 RGl w (some ad) n xs) : ∀ (ob : Obj) j u, (flatC encGl xs)[j]? = some u → (w.alloc ob).cell? (ad.add j) = some u := fun ob j u hj => by
  have hlt := (List.getElem?_eq_some_iff.1 hj).1
  have hl := h.len
  rw [flatC_len encGl_len] at hlt
  obtain ⟨b, o, e, hb, hc⟩ := h.ptr (by omega)
  injection e with e
  subst e
  refine Eq.trans (World.cell?_alloc_lt _ _ _ ?_) (glCells_of_rd hc j u hj)
  rw [Addr.add_lit]; exact hb
theorem cl_of_i {w : World} {ad : Addr} {n : Nat} {xs : List Int} (h : RdSl 1 RInt w (some ad) n xs) : ∀ (ob : Obj) j u, (flatC encI xs)[j]? = some u → (w.alloc ob).cell? (ad.add j) = some u := fun ob j u hj => by
  have hlt := (List.getElem?_eq_some_iff.1 hj).1
  have hl := h.len
  rw [flatC_len encI_len] at hlt
  obtain ⟨b, o, e, hb, hc⟩ := h.ptr (by omega)
  injection e with e
  subst e
  refine Eq.trans (World.cell?_alloc_lt _ _ _ ?_) (iCells_of_rd hc j u hj)
  rw [Addr.add_lit]; exact hb
set_option maxRecDepth 100000 in
set_option maxHeartbeats 1000000 in
theorem CloneGl_any (A : Option Addr) (n c : Nat) (bs : List Gl) (w : World) (h : RdSl 2 RGl w A n bs) (hn : n ≤ 1073741824) :
    Calls Try.prog 120 #[.slice A n c] w (OwnGls w bs) := by
  obtain ⟨i0, hi, hz0, hz1, hz2⟩ := info_parts infoGl
  have hl := h.len
  have hq := fun W => Lib.run_eql_slice_nil (P := Try.prog) W 30 123 A n c 0 0 Try.underlying30
  cases A with
  | none =>
    obtain ⟨rfl, rfl⟩ := nil_len h
    clear h
    go_enter Try.func120, Try.ntmps120
    go_wp2
    go_ret
    exact ⟨_, rfl, World.ownsRow_nil _ _ _ _, bl_refl _⟩
  | some ad =>
    have hclH := Lib.hid (cl_of_gl h)
    have hlH := Lib.hid hl
    have hlen := flatC_len encGl_len bs
    rw [hl] at hlen
    have hlenH := Lib.hid hlen
    clear h hl hlen
    go_enter Try.func120, Try.ntmps120
    go_wp2_with (at_builtin; go_loud (refine wpList_append_own _ rfl _ _ 30 rfl w.heap.size 123 i0 (.agg #[.string ByteArray.empty, .int .i64 0]) 2 24 Try.underlying30 hi hz0 hz1 hz2 rfl (by decide) _ 0 [] rfl (World.ownsRow_made _ _ _ (Nat.le_refl _) (by decide) rfl) ad n c (flatC encGl bs) rfl hlenH.out (fun j u hj => hclH.out _ j u hj) (flatC_one encGl_one bs) (by unfold maxLen; omega) (by omega) (by simp) ?_); intro v' w3 hown' hgrow _)
    go_ret
    refine ⟨_, rfl, ?_, ((Below.refl w.heap.size w).alloc (Nat.le_refl _) _).grown hgrow (by simp) (fun b' hb' => ?_)⟩
    · rw [hlH.out]
      simpa using hown'
    · have hb2 : some w.heap.size = some b' := hb'
      injection hb2 with hb3
      exact Nat.le_of_eq hb3
set_option maxRecDepth 100000 in
set_option maxHeartbeats 1000000 in
theorem CloneI_any (A : Option Addr) (n c : Nat) (bs : List Int) (w : World) (h : RdSl 1 RInt w A n bs) (hn : n ≤ 1073741824) :
    Calls Try.prog 121 #[.slice A n c] w (OwnIs w bs) := by
  obtain ⟨i0, hi, hz0, hz1, hz2⟩ := info_parts infoI
  have hl := h.len
  have hq := fun W => Lib.run_eql_slice_nil (P := Try.prog) W 52 2 A n c 0 0 Try.underlying52
  cases A with
  | none =>
    obtain ⟨rfl, rfl⟩ := nil_len h
    clear h
    go_enter Try.func121, Try.ntmps121
    go_wp2
    go_ret
    exact ⟨_, rfl, World.ownsRow_nil _ _ _ _, bl_refl _⟩
  | some ad =>
    have hclH := Lib.hid (cl_of_i h)
    have hlH := Lib.hid hl
    have hlen := flatC_len encI_len bs
    rw [hl] at hlen
    have hlenH := Lib.hid hlen
    clear h hl hlen
    go_enter Try.func121, Try.ntmps121
    go_wp2_with (at_builtin; go_loud (refine wpList_append_own _ rfl _ _ 52 rfl w.heap.size 2 i0 (.int .i64 0) 1 8 Try.underlying52 hi hz0 hz1 hz2 rfl (by decide) _ 0 [] rfl (World.ownsRow_made _ _ _ (Nat.le_refl _) (by decide) rfl) ad n c (flatC encI bs) rfl hlenH.out (fun j u hj => hclH.out _ j u hj) (flatC_one encI_one bs) (by unfold maxLen; omega) (by omega) (by simp) ?_); intro v' w3 hown' hgrow _)
    go_ret
    refine ⟨_, rfl, ?_, ((Below.refl w.heap.size w).alloc (Nat.le_refl _) _).grown hgrow (by simp) (fun b' hb' => ?_)⟩
    · rw [hlH.out]
      simpa using hown'
    · have hb2 : some w.heap.size = some b' := hb'
      injection hb2 with hb3
      exact Nat.le_of_eq hb3
def tiOf (e : Sti) : Ti := ⟨e.name, e.sides⟩
def tisOf (ts : List Sti) : List Ti := ts.map tiOf
theorem tisOf_len (ts : List Sti) : (tisOf ts).length = ts.length := by simp [tisOf]
theorem tisOf_get {ts : List Sti} {k : Nat} {e : Sti} (h : ts[k]? = some e) : (tisOf ts)[k]? = some (tiOf e) := by simp [tisOf, h]
theorem tisOf_inv {ts : List Sti} {k : Nat} {e : Ti} (h : (tisOf ts)[k]? = some e) : ∃ t, ts[k]? = some t ∧ e = tiOf t := by
  simp only [tisOf, List.getElem?_map, Option.map_eq_some_iff] at h
  obtain ⟨t, h1, h2⟩ := h
  exact ⟨t, h1, h2.symm⟩
theorem take_snoc {α : Type} {l : List α} {k : Nat} {e : α} (h : l[k]? = some e) : l.take (k + 1) = l.take k ++ [e] := by
  rw [List.take_add_one, h]; rfl
/-- a tile set of a call's own making, as a value -/
structure SetOwn (w : World) (lo : Nat) (v : Value) (gs : List Gl) (ts : List Ti) : Prop where
  out : ∃ vg vt us, v = .agg #[vg, vt] ∧ w.ownsRow lo 123 2 vg gs.length (flatC encGl gs) ∧ OwnT w lo 152 2 vt us ts
theorem SetOwn.rd {w : World} {lo : Nat} {v : Value} {gs : List Gl} {ts : List Ti} (h : SetOwn w lo v gs ts) : ∃ A n c B m d, v = .agg #[.slice A n c, .slice B m d] ∧ RdSl 2 RGl w A n gs ∧ RdSl 2 RTi w B m ts := by
  obtain ⟨vg, vt, us, rfl, hg, ht⟩ := h.out
  obtain ⟨A, c, rfl, hA⟩ := rdGl_of_flat hg
  obtain ⟨B, d, rfl, hB⟩ := ht.rd
  exact ⟨A, _, c, B, _, d, rfl, hA, hB⟩
def PlainRes (w : World) (gs : List Gl) (ts : List Sti) (e : Ending) (w' : World) : Prop := ∃ v, e = .returned v ∧ SetOwn w' w.heap.size v gs (tisOf ts) ∧ Below w.heap.size w w'
set_option maxRecDepth 100000 in
set_option maxHeartbeats 4000000 in
theorem plain_any (G T : Option Addr) (n cg m ct : Nat) (gs : List Gl) (ts : List Sti) (w : World) (hG : RdSl 2 RGl w G n gs) (hT : RdSl 4 RSti w T m ts) (hn : n ≤ 1073741824) (hm : m ≤ 1073741824) (hsz : ∀ (k : Nat) (e : Sti), ts[k]? = some e → e.sides.length ≤ 1073741824) :
    Calls Try.prog 69 #[.agg #[.slice G n cg, .slice T m ct]] w (PlainRes w gs ts) := by
  obtain ⟨i2, hi2, hz02, hz12, hz22⟩ := info_parts infoTi
  have hlg := Lib.hid hG.len
  have hlt := Lib.hid hT.len
  have hGH := Lib.hid hG
  have hTH := Lib.hid hT
  have hszH := Lib.hid hsz
  clear hG hT hsz
  go_enter Try.func69, Try.ntmps69
  go_wp2_with (go_at_call 120; refine (CloneGl_any G n cg gs _ (hGH.out.below RGl.stable (by exact bel_)) hn).mono ?_; rintro e w1 ⟨vg, rfl, hog, hb1⟩; obtain ⟨A1, cA, rfl⟩ := ownsRow_form hog; obtain ⟨chb1, fhb1, shb1, thb1⟩ := bcell hb1; have b0 := shb1 (w.heap.size + 1) (by go_simp); have b1 := shb1 (w.heap.size) (by go_simp))
  have r0 : w1.cell? ⟨w.heap.size + 1, 0, none⟩ = some (.slice none 0 0) := by go_simp
  have r1 : w1.cell? ⟨w.heap.size + 1, 1, none⟩ = some (.slice none 0 0) := by go_simp
  have rf0 : w1.frozen? ⟨w.heap.size + 1, 0, none⟩ = false := by go_simp
  have rf1 : w1.frozen? ⟨w.heap.size + 1, 1, none⟩ = false := by go_simp
  have hogH := Lib.hid (ownsRow_lo (base' := w.heap.size + 2) hog (by simp))
  have hb1H := Lib.hid (show Below w.heap.size w w1 by exact bel_)
  clear hog hb1 chb1 fhb1 shb1 thb1
  go_loopg [13] m (fun r x wr => ∃ (k : Nat) (us : List Value) (A2 : Option Addr) (c2 : Nat), k + r = m ∧ x = .int .i64 (k : Int) ∧ Hid (us.length = k) ∧ Hid (OwnT wr (w1.heap.size + 1) 152 2 (.slice A2 k c2) us ((tisOf ts).take k)) ∧ Hid (Below (w1.heap.size) w1 wr) ∧ w1.heap.size < wr.heap.size ∧ wr.cell? ⟨w1.heap.size, 0, none⟩ = some (.slice A1 gs.length cA) ∧ wr.frozen? ⟨w1.heap.size, 0, none⟩ = false ∧ wr.cell? ⟨w1.heap.size, 1, none⟩ = some (.slice A2 k c2) ∧ wr.frozen? ⟨w1.heap.size, 1, none⟩ = false)
  case atStart => exact ⟨0, [], none, 0, by omega, rfl, Lib.hid rfl, Lib.hid (by simpa using OwnT.nil _ _ _ _), Lib.hid (by exact bel_), by simp, by go_simp, by go_simp, by go_simp, by go_simp⟩
  case round =>
    obtain ⟨k, us, A2, c2, hk, rfl, hul, hO, hbw, hsz2, g0, gf0, g1, gf1⟩ := hrel
    have hT2 := hTH.out.below RSti.stable (hb1H.out.trans (hbw.out.mono hb1H.out.size))
    by_cases hkm : k < m
    · obtain ⟨bt, ot, rfl, hbt, hct⟩ := hT2.ptr (by omega)
      obtain ⟨e, he⟩ := hT2.get hkm
      obtain ⟨c0, ⟨SA, sn, sc, c1, hS⟩, ⟨OA, on, oc, c2', hO'⟩, ⟨FA, fn, fc, c3, hF⟩⟩ := hct k e he
      have hsn := hszH.out k e he
      rw [hS.len] at hsn
      have hsl := Lib.hid hS.len
      have heH := Lib.hid he
      have hSH := Lib.hid hS
      clear hct he hT2 hS hO' hF
      go_wp2
      obtain ⟨w4, hw4⟩ : ∃ W, W = wr.alloc (Obj.cells #[.string e.name, .slice SA sn sc, .slice OA on oc, .slice FA fn fc] 127) := ⟨_, rfl⟩
      rw [← hw4]
      have s4 : w4.heap.size = wr.heap.size + 1 := by rw [hw4]; simp
      have e0 : w4.cell? ⟨wr.heap.size, 0, none⟩ = some (.string e.name) := by rw [hw4]; go_simp
      have e1 : w4.cell? ⟨wr.heap.size, 1, none⟩ = some (.slice SA sn sc) := by rw [hw4]; go_simp
      have hb4 : Below wr.heap.size wr w4 := by rw [hw4]; exact bl_al (bl_refl _) _
      have q0 := (hb4.cell (p := ⟨w1.heap.size, 0, none⟩) hsz2).trans g0
      have q1 := (hb4.cell (p := ⟨w1.heap.size, 1, none⟩) hsz2).trans g1
      have qf0 := (hb4.frozen (p := ⟨w1.heap.size, 0, none⟩) hsz2).trans gf0
      have qf1 := (hb4.frozen (p := ⟨w1.heap.size, 1, none⟩) hsz2).trans gf1
      have hO4 := Lib.hid (hO.out.below hb4)
      have hS4 := Lib.hid (hSH.out.below RInt.stable hb4)
      have hbw4 := Lib.hid (hbw.out.trans (hb4.mono hbw.out.size))
      have l4 : w1.heap.size < w4.heap.size := by omega
      have l4e : wr.heap.size < w4.heap.size := by omega
      have l4b : w1.heap.size + 1 ≤ w4.heap.size := by omega
      clear hw4 hb4 hO hSH hbw hsz2 g0 gf0 g1 gf1 c0 c1 c2' c3 s4
      refine wp_region_ord [(0, .q), (1, .q), (2, .q), (3, .q), (4, .q), (5, .q), (6, .g), (7, .q), (8, .g), (9, .b), (10, .q), (11, .b)] (by kernel_rfl) (by kernel_rfl) ?_
      simp only [pick, List.filterMap_cons, List.filterMap_nil, List.getElem?_toArray, List.getElem?_cons_zero, List.getElem?_cons_succ, Option.map_some]
      repeat (first | ((with_reducible refine wpD_p (fun K hK => ?_)); go_simp; refine hK _ ?_; clear hK K) | ((with_reducible refine wpD_q (fun K hK => ?_)); go_simp; (first | refine hK _ ?_ | (go_bits; refine hK _ ?_) | (go_bits; go_simp; refine hK _ ?_)); clear hK K))
      with_reducible refine wpD_g (fun K hK => ?_)
      go_simp
      go_at_call 121
      refine (CloneI_any SA sn sc e.sides _ (hS4.out.below RInt.stable (by exact bel_)) hsn).mono ?_
      rintro e' w2 ⟨v2, rfl, ho2, hb2⟩
      obtain ⟨A3, c3, rfl⟩ := ownsRow_form ho2
      refine ⟨_, rfl, hb2, hK _ _ ?_⟩
      clear hK K
      have hB2 : Below w4.heap.size w4 w2 := (bl_dr (bl_refl w4)).trans (hb2.mono (by simp))
      replace ho2 := ownsRow_lo (base' := w4.heap.size) ho2 (by simp)
      replace q0 := (hB2.cell (p := ⟨w1.heap.size, 0, none⟩) l4).trans q0
      replace q1 := (hB2.cell (p := ⟨w1.heap.size, 1, none⟩) l4).trans q1
      replace qf0 := (hB2.frozen (p := ⟨w1.heap.size, 0, none⟩) l4).trans qf0
      replace qf1 := (hB2.frozen (p := ⟨w1.heap.size, 1, none⟩) l4).trans qf1
      have hOl := Lib.hid (show ∀ g, (∃ u : Value, (Value.slice A2 k c2 = u ∨ ∃ j, us[j]? = some u) ∧ u.ownBlock = some g) → g < w4.heap.size from fun g hh => by
        obtain ⟨u, hu, hg⟩ := hh
        rcases hu with rfl | ⟨j, hj⟩
        · exact (hO4.out.lt g hg).2
        · exact (hO4.out.ltIn hj g hg).2)
      replace hO4 := Lib.hid (hO4.out.below hB2)
      replace hbw4 := Lib.hid (hbw4.out.trans (hB2.mono hbw4.out.size))
      replace l4 := Nat.lt_of_lt_of_le l4 hB2.size
      replace l4e := Nat.lt_of_lt_of_le l4e hB2.size
      have hB2H := Lib.hid hB2
      have ho2H := Lib.hid ho2
      clear hb2 ho2 hB2 e0 e1 hS4
      repeat (first | ((with_reducible refine wpD_p (fun K hK => ?_)); go_simp; refine hK _ ?_; clear hK K) | ((with_reducible refine wpD_q (fun K hK => ?_)); go_simp; (first | refine hK _ ?_ | (go_bits; refine hK _ ?_) | (go_bits; go_simp; refine hK _ ?_)); clear hK K))
      with_reducible refine wpD_g (fun K hK => ?_)
      go_simp
      refine ⟨Grew.of_alloc _, hK _ _ ?_⟩
      clear hK K
      have hb5 : Hid (Below w2.heap.size w2 (w2.alloc (Obj.cells #[.string e.name, .slice A3 e.sides.length c3] 152))) := Lib.hid (by exact bel_)
      refine wpD_append_atN rfl _ _ 42 rfl (w1.heap.size + 1) 152 i2 (.agg #[.string ByteArray.empty, .slice none 0 0]) 2 40 Try.underlying42 hi2 hz02 hz12 hz22 rfl (by decide) (.slice A2 k c2) k (flatC encNU ((((tisOf ts).take k).map Ti.name).zip us)) (by go_simp) (by have := (hO4.out.below hb5.out).outer; rwa [hul.out] at this) ⟨w2.heap.size, 0, none⟩ 1 1 [.string e.name, .slice A3 e.sides.length c3] (by go_simp) rfl ?hnews (fun x hx => by simp at hx; rcases hx with rfl | rfl <;> rfl) (by unfold maxLen; omega) (by omega) (by simp; omega) ?_
      case hnews =>
        have := cell_two_newN w2 (.string e.name) (.slice A3 e.sides.length c3) 152
        simpa using this
      intro v5 w5 hown5 hgrow5 hat5
      obtain ⟨A5, c5, rfl⟩ := ownsRow_form hown5
      have hP := (hO4.out.below hb5.out).push (t := tiOf e) hul.out ((ownsRow_below ho2H.out hb5.out) |> fun h => ownsRow_lo h l4b) (fun g hg => by
        have h1 := (ho2H.out.lt g hg).1
        exact ⟨fun e' => by have := hOl.out g ⟨_, .inl rfl, e'⟩; omega, fun j u hu e' => by have := hOl.out g ⟨u, .inr ⟨j, hu⟩, e'⟩; omega⟩) hown5 hgrow5 hat5
      rw [← take_snoc (tisOf_get heH.out)] at hP
      have hbX : Below (w1.heap.size + 1) w2 w5 := (hb5.out.mono (by omega)).grown hgrow5 (by simp; omega) (fun g e => (hO4.out.lt g e).1)
      have m0 := (hbX.cell (p := ⟨w1.heap.size, 0, none⟩) (by simp)).trans q0
      have mf0 := (hbX.frozen (p := ⟨w1.heap.size, 0, none⟩) (by simp)).trans qf0
      have m1 := (hbX.cell (p := ⟨w1.heap.size, 1, none⟩) (by simp)).trans q1
      have mf := (hbX.frozen (p := ⟨w1.heap.size, 1, none⟩) (by simp)).trans qf1
      have l5 : w1.heap.size < w5.heap.size := by have := hbX.size; omega
      have hPH := Lib.hid hP
      have hbXH := Lib.hid (hbw4.out.trans (hbX.mono (by omega)))
      clear hown5 hgrow5 hat5 hP hbX q0 q1 qf0 qf1 hb5
      repeat (first | ((with_reducible refine wpD_p (fun K hK => ?_)); go_simp; refine hK _ ?_; clear hK K) | ((with_reducible refine wpD_q (fun K hK => ?_)); go_simp; (first | refine hK _ ?_ | (go_bits; refine hK _ ?_) | (go_bits; go_simp; refine hK _ ?_)); clear hK K))
      with_reducible refine wpD_b (fun K hK => ?_)
      go_simp
      refine hK _ _ ?_
      clear hK K
      with_reducible refine wpD_nil ?_
      go_wp2
      go_roundg (m - (k + 1))
      case measure => omega
      case rel =>
        exact ⟨k + 1, us ++ [.slice A3 e.sides.length c3], A5, c5, by omega, by go_num, Lib.hid (by simp [hul.out]), Lib.hid (hPH.out.setBelow (by simp) _), Lib.hid (hbXH.out.setCell (p := ⟨w1.heap.size, 1, none⟩) (by simp) _), by simp; omega, by go_simp, by go_simp, by go_simp, by go_simp⟩
    · obtain rfl : k = m := by omega
      clear hT2
      have s1 := hb1H.out.size
      have z0 : wr.cell? ⟨w.heap.size + 1, 0, none⟩ = some (.slice none 0 0) := (hbw.out.cell (p := ⟨w.heap.size + 1, 0, none⟩) b0).trans r0
      have z1 : wr.cell? ⟨w.heap.size + 1, 1, none⟩ = some (.slice none 0 0) := (hbw.out.cell (p := ⟨w.heap.size + 1, 1, none⟩) b0).trans r1
      have zf0 : wr.frozen? ⟨w.heap.size + 1, 0, none⟩ = false := (hbw.out.frozen (p := ⟨w.heap.size + 1, 0, none⟩) b0).trans rf0
      have zf1 : wr.frozen? ⟨w.heap.size + 1, 1, none⟩ = false := (hbw.out.frozen (p := ⟨w.heap.size + 1, 1, none⟩) b0).trans rf1
      have lz : w.heap.size + 1 < wr.heap.size := by omega
      go_wp2
      refine bodyPost_ret (v := .agg #[.slice A1 gs.length cA, .slice A2 k c2]) (by simp only [results, Try.results69]; go_simp) rfl ?_
      refine ⟨_, rfl, ⟨_, _, us, rfl, ?_, ?_⟩, ?_⟩
      · refine ownsRow_lo (ownsRow_setB (ownsRow_setB (ownsRow_below hogH.out hbw.out) (by simp) _) (by simp) _) (by omega)
      · have h := hO.out
        rw [List.take_of_length_le (by rw [tisOf_len, hlt.out]; exact Nat.le_refl _)] at h
        exact ((h.setBelow (by simp; omega) _).setBelow (by simp; omega) _).rebase (by omega)
      · exact ((hb1H.out.trans (hbw.out.mono hb1H.out.size)).setCell (p := ⟨w.heap.size + 1, 0, none⟩) (by simp) _).setCell (p := ⟨w.heap.size + 1, 1, none⟩) (by simp) _
theorem allB_at' {n k : Nat} {p : Nat → Bool} (h : allB n p = true) (hk : k < n) : p k = true := by
  simp only [allB, List.all_eq_true, List.mem_range] at h
  exact h k hk
/-- the set's check -/
def sgSetB (gs : List Gl) (ts : List Sti) : Bool := validSetB gs (tisOf ts) && allB ts.length (okStJ ts)
def BigG (gs : List Gl) : Prop := ∀ (k : Nat) (e : Gl), gs[k]? = some e → e.name.size ≤ 9223372036854775807
def BigS (ts : List Sti) : Prop := ∀ (k : Nat) (e : Sti), ts[k]? = some e → e.name.size ≤ 9223372036854775807 ∧ e.sides.length ≤ 1073741824 ∧ e.on.length ≤ 1073741824 ∧ e.fires.length ≤ 1073741824
theorem valid_four {gs : List Gl} {ts : List Ti} (h : validSetB gs ts = true) {k : Nat} {t : Ti} (hk : ts[k]? = some t) : t.sides.length = 4 := by
  unfold validSetB at h
  simp only [Bool.and_eq_true] at h
  have := allB_at' h.2.2 ((List.getElem?_eq_some_iff.1 hk).1)
  rw [okTi_eq hk] at this
  simp only [Bool.and_eq_true, decide_eq_true_eq] at this
  exact this.2.1
theorem smSt_of {gs : List Gl} {ts : List Sti} (h : validSetB gs (tisOf ts) = true) (hb : BigS ts) : SmSt ts := fun k e he => ⟨valid_four h (tisOf_get he), (hb k e he).2.2.1, (hb k e he).2.2.2⟩
set_option maxHeartbeats 1000000 in
theorem ValidSignalSet_any (G T : Option Addr) (n cg m ct : Nat) (gs : List Gl) (ts : List Sti) (w : World) (hG : RdSl 2 RGl w G n gs) (hT : RdSl 4 RSti w T m ts) (hn : n ≤ 1073741824) (hm : m ≤ 1073741824) (hbg : BigG gs) (hbs : BigS ts) :
    Calls Try.prog 31 #[.agg #[.slice G n cg, .slice T m ct]] w fun e w' => e = .returned (.bool (sgSetB gs ts)) ∧ Below w.heap.size w w' := by
  have hlg := Lib.hid hG.len
  have hlt := Lib.hid hT.len
  have hGH := Lib.hid hG
  have hTH := Lib.hid hT
  have hbgH := Lib.hid hbg
  have hbsH := Lib.hid hbs
  clear hG hT hbg hbs
  cases hv : validSetB gs (tisOf ts)
  all_goals
    have hvH := Lib.hid hv
    clear hv
    go_enter Try.func31, Try.ntmps31
    go_wp2_with (first
      | (go_at_call 69; refine (plain_any G T n cg m ct gs ts _ (hGH.out.below RGl.stable (by exact bel_)) (hTH.out.below RSti.stable (by exact bel_)) hn hm (fun k e he => (hbsH.out k e he).2.1)).mono ?_; rintro e w1 ⟨vp, rfl, hsp, hb1⟩; obtain ⟨A, n2, cA, B, m2, cB, rfl, rA, rB⟩ := hsp.rd; have lA := rA.len; have lB := rB.len; have lA2 := hlg.out; have lB2 := hlt.out; rw [tisOf_len] at lB; have rAH := Lib.hid rA; have rBH := Lib.hid rB; obtain ⟨chb1, fhb1, shb1, thb1⟩ := bcell hb1; have b1 := shb1 (w.heap.size) (by go_simp); clear rA rB hsp)
      | (go_at_call 68; refine (ValidSet_any A B n2 cA m2 cB gs (tisOf ts) _ rAH.out rBH.out (by omega) (by omega) hbgH.out (fun k e he => by obtain ⟨t, ht, rfl⟩ := tisOf_inv he; exact ⟨(hbsH.out k t ht).1, by have := (hbsH.out k t ht).2.1; show t.sides.length ≤ _; omega⟩)).mono ?_; rw [hvH.out]; rintro e w2 ⟨rfl, hb2⟩; obtain ⟨chb2, fhb2, shb2, thb2⟩ := bcell hb2; have b2 := shb2 (w.heap.size) b1)
      | (go_at_call 70; refine (ContainsFuncSt_any T m ct ts _ (hTH.out.below RSti.stable (by exact bel_)) hm (smSt_of hvH.out hbsH.out)).mono ?_; rintro e w3 ⟨rfl, hb3⟩))
    go_ret
  · exact ⟨ret_bool (by unfold sgSetB; rw [hvH.out]; rfl), by exact bel_⟩
  · exact ⟨ret_bool (by unfold sgSetB; rw [hvH.out, hlt.out]; simp), by exact bel_⟩
end Go.Proofs.Ytbipnnjkddffbaa
