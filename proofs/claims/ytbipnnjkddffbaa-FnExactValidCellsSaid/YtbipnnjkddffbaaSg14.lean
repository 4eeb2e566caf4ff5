/- Walks: the reference's copies of numbers and of a signal set without its signals. -/
import Derived.Test.YtbipnnjkddffbaaSg9
import Derived.Deep.Cut
namespace Go.Proofs.Ytbipnnjkddffbaa
open Go.RowKit Go.Shelf
set_option linter.unusedSimpArgs false
set_option linter.unusedVariables false
attribute [local go_sem] BelowBy.cell BelowBy.cell_drew stillUpon givesUpon BelowBy.cell_drewS2 BelowBy.cell_drewS3

set_option maxRecDepth 100000 in
set_option maxHeartbeats 1000000 in
theorem l00Own_any (A : Option Addr) (n c : Nat) (bs : List Int) (w : World) (h : RdSl 1 RInt w A n bs) (hn : n ≤ 1073741824) :
    Calls Try.prog 147 #[.slice A n c] w (OwnIs w bs) := by
  obtain ⟨i0, hi, hz0, hz1, hz2⟩ := info_parts infoI
  have hl := h.len
  cases A with
  | none =>
    obtain ⟨rfl, rfl⟩ := nil_len h
    clear h
    go_enter Try.func147, Try.ntmps147
    go_wp2
    go_ret
    exact ⟨_, rfl, World.ownsRow_made _ _ _ (Nat.le_refl _) (by decide) rfl, bl_al (bl_refl _) _⟩
  | some ad =>
    have hclH := Lib.hid (cl_of_i h)
    have hlH := Lib.hid hl
    have hlen := flatC_len encI_len bs
    rw [hl] at hlen
    have hlenH := Lib.hid hlen
    clear h hl hlen
    go_enter Try.func147, Try.ntmps147
    go_wp2_with (at_builtin; go_loud (refine wpList_append_own _ rfl _ _ 52 rfl w.heap.size 2 i0 (.int .i64 0) 1 8 Try.underlying52 hi hz0 hz1 hz2 rfl (by decide) _ 0 [] rfl (World.ownsRow_made _ _ _ (Nat.le_refl _) (by decide) rfl) ad n c (flatC encI bs) rfl hlenH.out (fun j u hj => hclH.out _ j u hj) (flatC_one encI_one bs) (by unfold maxLen; omega) (by omega) (by simp) ?_); intro v' w3 hown' hgrow _)
    go_ret
    refine ⟨_, rfl, ?_, ((Below.refl w.heap.size w).alloc (Nat.le_refl _) _).grown hgrow (by simp) (fun b' hb' => ?_)⟩
    · rw [hlH.out]
      simpa using hown'
    · have hb2 : some w.heap.size = some b' := hb'
      injection hb2 with hb3
      exact Nat.le_of_eq hb3
/-- a signal set lies in block p -/
structure SgAt (w : World) (p : Nat) (gs : List Gl) (ts : List Sti) : Prop where
  lt : p < w.heap.size
  gl : ∃ A n c, w.cell? ⟨p, 0, none⟩ = some (.slice A n c) ∧ RdSl 2 RGl w A n gs
  ti : ∃ A n c, w.cell? ⟨p, 1, none⟩ = some (.slice A n c) ∧ RdSl 4 RSti w A n ts
theorem SgAt.below {w w' : World} {p : Nat} {gs : List Gl} {ts : List Sti} (h : SgAt w p gs ts) (hb : Below w.heap.size w w') : SgAt w' p gs ts := by
  obtain ⟨A, n, c, h1, h2⟩ := h.gl
  obtain ⟨B, m, d, h3, h4⟩ := h.ti
  exact ⟨Nat.lt_of_lt_of_le h.lt hb.size, ⟨A, n, c, (hb.cell (p := ⟨p, 0, none⟩) h.lt).trans h1, h2.below RGl.stable hb⟩, ⟨B, m, d, (hb.cell (p := ⟨p, 1, none⟩) h.lt).trans h3, h4.below RSti.stable hb⟩⟩
theorem made_row0 (w : World) (o : Obj) (t : TypeId) : ((w.alloc o).alloc (.cells #[] t)).ownsRow (w.heap.size + 1) t 2 (.slice (some ⟨w.heap.size + 1, 0, none⟩) 0 0) 0 [] := by
  have h := World.ownsRow_made (base := w.heap.size + 1) (e := t) (size := 2) (w.alloc o) #[] 0 (Nat.le_of_eq (World.size_alloc _ _).symm) (Nat.zero_le _) rfl
  rwa [World.size_alloc] at h
set_option maxRecDepth 100000 in
set_option maxHeartbeats 8000000 in
theorem l31Plain_any (p : Nat) (gs : List Gl) (ts : List Sti) (w : World) (h : SgAt w p gs ts) (hn : gs.length ≤ 1073741824) (hm : ts.length ≤ 1073741824) (hsz : ∀ (k : Nat) (e : Sti), ts[k]? = some e → e.sides.length ≤ 1073741824) :
    Calls Try.prog 109 #[.pointer (some ⟨p, 0, none⟩)] w (PlainRes w gs ts) := by
  obtain ⟨lp, ⟨G, n, cg, pg, hG⟩, ⟨T, m, ct, pt, hT⟩⟩ := h
  obtain ⟨i0, hi, hz0, hz1, hz2⟩ := info_parts infoGl
  obtain ⟨i2, hi2, hz02, hz12, hz22⟩ := info_parts infoTi
  rw [hG.len] at hn
  rw [hT.len] at hm
  have lp1 : p ≤ w.heap.size := by omega
  have hlg := Lib.hid hG.len
  have hlt := Lib.hid hT.len
  have hTH := Lib.hid hT
  have hszH := Lib.hid hsz
  clear hT hsz
  cases G with
  | none =>
    obtain ⟨rfl, rfl⟩ := nil_len hG
    have hlen0 : ([] : List Gl).length = 0 := rfl
    clear hG
    go_enter Try.func109, Try.ntmps109
    go_upto_region 2 with fail
    obtain ⟨w1, hw1⟩ : ∃ W, W = (w.alloc (Obj.cells #[.slice none 0 0, .slice none 0 0] 44)).alloc (Obj.cells #[] 123) := ⟨_, rfl⟩
    rw [← hw1]
    have hs1 : w.heap.size + 1 + 1 = w1.heap.size := by rw [hw1]; simp
    rw [hs1]
    have r0 : w1.cell? ⟨w.heap.size, 0, none⟩ = some (.slice none 0 0) := by rw [hw1]; go_simp
    have r1 : w1.cell? ⟨w.heap.size, 1, none⟩ = some (.slice none 0 0) := by rw [hw1]; go_simp
    have rf0 : w1.frozen? ⟨w.heap.size, 0, none⟩ = false := by rw [hw1]; go_simp
    have rf1 : w1.frozen? ⟨w.heap.size, 1, none⟩ = false := by rw [hw1]; go_simp
    have b0 : w.heap.size < w1.heap.size := by rw [hw1]; simp; omega
    have hogH : Hid (w1.ownsRow (w.heap.size + 1) 123 2 (.slice (some ⟨w.heap.size + 1, 0, none⟩) 0 0) 0 (flatC encGl [])) := Lib.hid (by rw [hw1]; exact made_row0 w _ _)
    have hb1H : Hid (Below w.heap.size w w1) := Lib.hid (by rw [hw1]; exact bl_al (bl_al (bl_refl _) _) _)
    clear hw1 hs1
    go_wp2
    have hlen1 := Lib.hid hlen0
    clear hlen0
    have ls : p < w1.heap.size := by have := hb1H.out.size; omega
    have ptH := Lib.hid (show w1.cell? ⟨p, 1, none⟩ = some (.slice T m ct) from (hb1H.out.cell (p := ⟨p, 1, none⟩) lp).trans pt)
    clear pg pt
    go_loopg [4] m (fun r x wr => ∃ (k : Nat) (us : List Value) (A2 : Option Addr) (c2 : Nat), k + r = m ∧ x = .int .i64 (k : Int) ∧ Hid (us.length = k) ∧ Hid (OwnT wr (w1.heap.size + 1) 152 2 (.slice A2 k c2) us ((tisOf ts).take k)) ∧ Hid (Below (w1.heap.size) w1 wr) ∧ w1.heap.size < wr.heap.size ∧ wr.cell? ⟨w1.heap.size, 0, none⟩ = some (.slice (some ⟨w.heap.size + 1, 0, none⟩) 0 0) ∧ wr.frozen? ⟨w1.heap.size, 0, none⟩ = false ∧ wr.cell? ⟨w1.heap.size, 1, none⟩ = some (.slice A2 k c2) ∧ wr.frozen? ⟨w1.heap.size, 1, none⟩ = false)
    case atStart => exact ⟨0, [], none, 0, by omega, rfl, Lib.hid rfl, Lib.hid (by simpa using OwnT.nil _ _ _ _), Lib.hid (by exact bel_), by simp, by go_simp, by go_simp, by go_simp, by go_simp⟩
    case round =>
      obtain ⟨k, us, A2, c2, hk, rfl, hul, hO, hbw, hsz2, g0, gf0, g1, gf1⟩ := hrel
      have y1 := (hbw.out.cell (p := ⟨p, 1, none⟩) ls).trans ptH.out
      have lpw : p < wr.heap.size := by omega
      have lpw2 : p ≤ wr.heap.size := by omega
      have hT2 := hTH.out.below RSti.stable (hb1H.out.trans (hbw.out.mono hb1H.out.size))
      by_cases hkm : k < m
      · obtain ⟨bt, ot, rfl, hbt, hct⟩ := hT2.ptr (by omega)
        obtain ⟨e, he⟩ := hT2.get hkm
        obtain ⟨c0, ⟨SA, sn, sc, c1, hS⟩, _⟩ := hct k e he
        have hsn := hszH.out k e he
        rw [hS.len] at hsn
        have hsl := Lib.hid hS.len
        have heH := Lib.hid he
        have hSH := Lib.hid hS
        clear hct he hT2 hS
        go_wp2
        refine wp_region_ord [(0, .q), (1, .q), (2, .q), (3, .q), (4, .q), (5, .q), (6, .q), (7, .q), (8, .q), (9, .q), (10, .q), (11, .q), (12, .q), (13, .q), (14, .q), (15, .q), (16, .q), (17, .q), (18, .g), (19, .q), (20, .g), (21, .b), (22, .q), (23, .b)] (by kernel_rfl) (by kernel_rfl) ?_
        simp only [pick, List.filterMap_cons, List.filterMap_nil, List.getElem?_toArray, List.getElem?_cons_zero, List.getElem?_cons_succ, Option.map_some]
        repeat (first | ((with_reducible refine wpD_p (fun K hK => ?_)); go_simp; refine hK _ ?_; clear hK K) | ((with_reducible refine wpD_q (fun K hK => ?_)); go_simp; (first | refine hK _ ?_ | (go_bits; refine hK _ ?_) | (go_bits; go_simp; refine hK _ ?_)); clear hK K))
        with_reducible refine wpD_g (fun K hK => ?_)
        go_simp
        go_at_call 147
        refine (l00Own_any SA sn sc e.sides _ (hSH.out.below RInt.stable (by exact bel_)) hsn).mono ?_
        rintro e' w2 ⟨v2, rfl, ho2, hb2⟩
        obtain ⟨A3, c3, rfl⟩ := ownsRow_form ho2
        refine ⟨_, rfl, hb2, hK _ _ ?_⟩
        clear hK K
        have hB2 : Below wr.heap.size wr w2 := (bl_dr (bl_refl wr)).trans (hb2.mono (by simp))
        replace ho2 := ownsRow_lo (base' := wr.heap.size) ho2 (by simp)
        replace g0 := (hB2.cell (p := ⟨w1.heap.size, 0, none⟩) hsz2).trans g0
        replace g1 := (hB2.cell (p := ⟨w1.heap.size, 1, none⟩) hsz2).trans g1
        replace gf0 := (hB2.frozen (p := ⟨w1.heap.size, 0, none⟩) hsz2).trans gf0
        replace gf1 := (hB2.frozen (p := ⟨w1.heap.size, 1, none⟩) hsz2).trans gf1
        have hOl := Lib.hid (show ∀ g, (∃ u : Value, (Value.slice A2 k c2 = u ∨ ∃ j, us[j]? = some u) ∧ u.ownBlock = some g) → g < wr.heap.size from fun g hh => by
          obtain ⟨u, hu, hg⟩ := hh
          rcases hu with rfl | ⟨j, hj⟩
          · exact (hO.out.lt g hg).2
          · exact (hO.out.ltIn hj g hg).2)
        replace hO := Lib.hid (hO.out.below hB2)
        replace hbw := Lib.hid (hbw.out.trans (hB2.mono hbw.out.size))
        have l4b : w1.heap.size + 1 ≤ wr.heap.size := by omega
        replace hsz2 := Nat.lt_of_lt_of_le hsz2 hB2.size
        have hB2H := Lib.hid hB2
        have ho2H := Lib.hid ho2
        clear hb2 ho2 hB2 y1 lpw2
        repeat (first | ((with_reducible refine wpD_p (fun K hK => ?_)); go_simp; refine hK _ ?_; clear hK K) | ((with_reducible refine wpD_q (fun K hK => ?_)); go_simp; (first | refine hK _ ?_ | (go_bits; refine hK _ ?_) | (go_bits; go_simp; refine hK _ ?_)); clear hK K))
        with_reducible refine wpD_g (fun K hK => ?_)
        go_simp
        refine ⟨Grew.of_alloc _, hK _ _ ?_⟩
        clear hK K
        have hb5 : Hid (Below w2.heap.size w2 (w2.alloc (Obj.cells #[.string e.name, .slice A3 e.sides.length c3] 152))) := Lib.hid (by exact bel_)
        refine wpD_append_atN rfl _ _ 42 rfl (w1.heap.size + 1) 152 i2 (.agg #[.string ByteArray.empty, .slice none 0 0]) 2 40 Try.underlying42 hi2 hz02 hz12 hz22 rfl (by decide) (.slice A2 k c2) k (flatC encNU ((((tisOf ts).take k).map Ti.name).zip us)) (by go_simp) (by have := (hO.out.below hb5.out).outer; rwa [hul.out] at this) ⟨w2.heap.size, 0, none⟩ 1 1 [.string e.name, .slice A3 e.sides.length c3] (by go_simp) rfl ?hnews (fun x hx => by simp at hx; rcases hx with rfl | rfl <;> rfl) (by unfold maxLen; omega) (by omega) (by simp; omega) ?_
        case hnews =>
          have := cell_two_newN w2 (.string e.name) (.slice A3 e.sides.length c3) 152
          simpa using this
        intro v5 w5 hown5 hgrow5 hat5
        obtain ⟨A5, c5, rfl⟩ := ownsRow_form hown5
        have hP := (hO.out.below hb5.out).push (t := tiOf e) hul.out ((ownsRow_below ho2H.out hb5.out) |> fun h => ownsRow_lo h l4b) (fun g hg => by
          have h1 := (ho2H.out.lt g hg).1
          exact ⟨fun e' => by have := hOl.out g ⟨_, .inl rfl, e'⟩; omega, fun j u hu e' => by have := hOl.out g ⟨u, .inr ⟨j, hu⟩, e'⟩; omega⟩) hown5 hgrow5 hat5
        rw [← take_snoc (tisOf_get heH.out)] at hP
        have hbX : Below (w1.heap.size + 1) w2 w5 := (hb5.out.mono (by omega)).grown hgrow5 (by simp; omega) (fun g e => (hO.out.lt g e).1)
        have m0 := (hbX.cell (p := ⟨w1.heap.size, 0, none⟩) (by simp)).trans g0
        have mf0 := (hbX.frozen (p := ⟨w1.heap.size, 0, none⟩) (by simp)).trans gf0
        have m1 := (hbX.cell (p := ⟨w1.heap.size, 1, none⟩) (by simp)).trans g1
        have mf := (hbX.frozen (p := ⟨w1.heap.size, 1, none⟩) (by simp)).trans gf1
        have l5 : w1.heap.size < w5.heap.size := by have := hbX.size; omega
        have hPH := Lib.hid hP
        have hbXH := Lib.hid (hbw.out.trans (hbX.mono (by omega)))
        clear hown5 hgrow5 hat5 hP hbX g0 g1 gf0 gf1 hb5
        repeat (first | ((with_reducible refine wpD_p (fun K hK => ?_)); go_simp; refine hK _ ?_; clear hK K) | ((with_reducible refine wpD_q (fun K hK => ?_)); go_simp; (first | refine hK _ ?_ | (go_bits; refine hK _ ?_) | (go_bits; go_simp; refine hK _ ?_)); clear hK K))
        with_reducible refine wpD_b (fun K hK => ?_)
        go_simp
        refine hK _ _ ?_
        clear hK K
        with_reducible refine wpD_nil ?_
        go_wp2
        go_roundg (m - (k + 1))
        case measure => omega
        case rel =>
          exact ⟨k + 1, us ++ [.slice A3 e.sides.length c3], A5, c5, by omega, by go_num, Lib.hid (by simp [hul.out]), Lib.hid (hPH.out.setBelow (by simp) _), Lib.hid (hbXH.out.setCell (p := ⟨w1.heap.size, 1, none⟩) (by simp) _), by simp; omega, by go_simp, by go_simp, by go_simp, by go_simp⟩
      · obtain rfl : k = m := by omega
        clear hT2
        have s1 := hb1H.out.size
        have z0 : wr.cell? ⟨w.heap.size, 0, none⟩ = some (.slice none 0 0) := (hbw.out.cell (p := ⟨w.heap.size, 0, none⟩) b0).trans r0
        have z1 : wr.cell? ⟨w.heap.size, 1, none⟩ = some (.slice none 0 0) := (hbw.out.cell (p := ⟨w.heap.size, 1, none⟩) b0).trans r1
        have zf0 : wr.frozen? ⟨w.heap.size, 0, none⟩ = false := (hbw.out.frozen (p := ⟨w.heap.size, 0, none⟩) b0).trans rf0
        have zf1 : wr.frozen? ⟨w.heap.size, 1, none⟩ = false := (hbw.out.frozen (p := ⟨w.heap.size, 1, none⟩) b0).trans rf1
        have lz : w.heap.size < wr.heap.size := by omega
        go_wp2
        refine bodyPost_ret (v := .agg #[.slice (some ⟨w.heap.size + 1, 0, none⟩) 0 0, .slice A2 k c2]) (by simp only [results, Try.results109]; go_simp) rfl ?_
        refine ⟨_, rfl, ⟨_, _, us, rfl, ?_, ?_⟩, ?_⟩
        · rw [hlen1.out]
          refine ownsRow_lo (ownsRow_setB (ownsRow_setB (ownsRow_below hogH.out hbw.out) (by simp) _) (by simp) _) (by omega)
        · have h := hO.out
          rw [List.take_of_length_le (by rw [tisOf_len, hlt.out]; exact Nat.le_refl _)] at h
          exact ((h.setBelow (by simp; omega) _).setBelow (by simp; omega) _).rebase (by omega)
        · exact ((hb1H.out.trans (hbw.out.mono hb1H.out.size)).setCell (p := ⟨w.heap.size, 0, none⟩) (by simp) _).setCell (p := ⟨w.heap.size, 1, none⟩) (by simp) _
  | some ad =>
    have hclH := Lib.hid (fun (W : World) (hW : Below w.heap.size w W) => cl_of_gl (hG.below RGl.stable hW))
    have hlen := flatC_len encGl_len gs
    rw [hlg.out] at hlen
    have hlenH := Lib.hid hlen
    have hlen0 : gs.length = n := hlg.out
    clear hG hlen
    go_enter Try.func109, Try.ntmps109
    go_upto_region 2 with (at_builtin; go_loud (refine wpList_append_own _ rfl _ _ 30 rfl (w.heap.size + 1) 123 i0 (.agg #[.string ByteArray.empty, .int .i64 0]) 2 24 Try.underlying30 hi hz0 hz1 hz2 rfl (by decide) (.slice (some ⟨w.heap.size + 1, 0, none⟩) 0 0) 0 [] rfl (made_row0 w _ _) ad n cg (flatC encGl gs) rfl hlenH.out (fun j u hj => hclH.out _ (by exact bel_) _ j u hj) (flatC_one encGl_one gs) (by unfold maxLen; omega) (by omega) (by first | (simp; done) | (simp; omega)) ?_); intro v' w1 hown' hgrow _; obtain ⟨A1, cA, rfl⟩ := ownsRow_form hown'; have hbX : Below (w.heap.size + 1) (w.alloc (Obj.cells #[.slice none 0 0, .slice none 0 0] 44)) w1 := ((Below.refl _ _).alloc (by simp) _).grown hgrow (by simp) (fun b' hb' => by have hb2 : some (w.heap.size + 1) = some b' := hb'; injection hb2 with hb3; exact Nat.le_of_eq hb3); have q0 := hbX.cell (p := ⟨w.heap.size, 0, none⟩) (Nat.lt_succ_self _); have q1 := hbX.cell (p := ⟨w.heap.size, 1, none⟩) (Nat.lt_succ_self _); have qf0 := hbX.frozen (p := ⟨w.heap.size, 0, none⟩) (Nat.lt_succ_self _); have qf1 := hbX.frozen (p := ⟨w.heap.size, 1, none⟩) (Nat.lt_succ_self _); have qs := hbX.size)
    simp only [List.nil_append, Nat.zero_add] at hown'
    have r0 : w1.cell? ⟨w.heap.size, 0, none⟩ = some (.slice none 0 0) := q0.trans (by go_simp)
    have r1 : w1.cell? ⟨w.heap.size, 1, none⟩ = some (.slice none 0 0) := q1.trans (by go_simp)
    have rf0 : w1.frozen? ⟨w.heap.size, 0, none⟩ = false := qf0.trans (by go_simp)
    have rf1 : w1.frozen? ⟨w.heap.size, 1, none⟩ = false := qf1.trans (by go_simp)
    have b0 : w.heap.size < w1.heap.size := by simp at qs; omega
    have hogH : Hid (w1.ownsRow (w.heap.size + 1) 123 2 (.slice A1 n cA) n (flatC encGl gs)) := Lib.hid (hown')
    have hb1H : Hid (Below w.heap.size w w1) := Lib.hid ((bl_al (bl_refl w) _).trans (hbX.mono (by omega)))
    clear hown' hgrow hbX q0 q1 qf0 qf1 qs
    go_wp2
    have hlen1 := Lib.hid hlen0
    clear hlen0
    have ls : p < w1.heap.size := by have := hb1H.out.size; omega
    have ptH := Lib.hid (show w1.cell? ⟨p, 1, none⟩ = some (.slice T m ct) from (hb1H.out.cell (p := ⟨p, 1, none⟩) lp).trans pt)
    clear pg pt
    go_loopg [4] m (fun r x wr => ∃ (k : Nat) (us : List Value) (A2 : Option Addr) (c2 : Nat), k + r = m ∧ x = .int .i64 (k : Int) ∧ Hid (us.length = k) ∧ Hid (OwnT wr (w1.heap.size + 1) 152 2 (.slice A2 k c2) us ((tisOf ts).take k)) ∧ Hid (Below (w1.heap.size) w1 wr) ∧ w1.heap.size < wr.heap.size ∧ wr.cell? ⟨w1.heap.size, 0, none⟩ = some (.slice A1 n cA) ∧ wr.frozen? ⟨w1.heap.size, 0, none⟩ = false ∧ wr.cell? ⟨w1.heap.size, 1, none⟩ = some (.slice A2 k c2) ∧ wr.frozen? ⟨w1.heap.size, 1, none⟩ = false)
    case atStart => exact ⟨0, [], none, 0, by omega, rfl, Lib.hid rfl, Lib.hid (by simpa using OwnT.nil _ _ _ _), Lib.hid (by exact bel_), by simp, by go_simp, by go_simp, by go_simp, by go_simp⟩
    case round =>
      obtain ⟨k, us, A2, c2, hk, rfl, hul, hO, hbw, hsz2, g0, gf0, g1, gf1⟩ := hrel
      have y1 := (hbw.out.cell (p := ⟨p, 1, none⟩) ls).trans ptH.out
      have lpw : p < wr.heap.size := by omega
      have lpw2 : p ≤ wr.heap.size := by omega
      have hT2 := hTH.out.below RSti.stable (hb1H.out.trans (hbw.out.mono hb1H.out.size))
      by_cases hkm : k < m
      · obtain ⟨bt, ot, rfl, hbt, hct⟩ := hT2.ptr (by omega)
        obtain ⟨e, he⟩ := hT2.get hkm
        obtain ⟨c0, ⟨SA, sn, sc, c1, hS⟩, _⟩ := hct k e he
        have hsn := hszH.out k e he
        rw [hS.len] at hsn
        have hsl := Lib.hid hS.len
        have heH := Lib.hid he
        have hSH := Lib.hid hS
        clear hct he hT2 hS
        go_wp2
        refine wp_region_ord [(0, .q), (1, .q), (2, .q), (3, .q), (4, .q), (5, .q), (6, .q), (7, .q), (8, .q), (9, .q), (10, .q), (11, .q), (12, .q), (13, .q), (14, .q), (15, .q), (16, .q), (17, .q), (18, .g), (19, .q), (20, .g), (21, .b), (22, .q), (23, .b)] (by kernel_rfl) (by kernel_rfl) ?_
        simp only [pick, List.filterMap_cons, List.filterMap_nil, List.getElem?_toArray, List.getElem?_cons_zero, List.getElem?_cons_succ, Option.map_some]
        repeat (first | ((with_reducible refine wpD_p (fun K hK => ?_)); go_simp; refine hK _ ?_; clear hK K) | ((with_reducible refine wpD_q (fun K hK => ?_)); go_simp; (first | refine hK _ ?_ | (go_bits; refine hK _ ?_) | (go_bits; go_simp; refine hK _ ?_)); clear hK K))
        with_reducible refine wpD_g (fun K hK => ?_)
        go_simp
        go_at_call 147
        refine (l00Own_any SA sn sc e.sides _ (hSH.out.below RInt.stable (by exact bel_)) hsn).mono ?_
        rintro e' w2 ⟨v2, rfl, ho2, hb2⟩
        obtain ⟨A3, c3, rfl⟩ := ownsRow_form ho2
        refine ⟨_, rfl, hb2, hK _ _ ?_⟩
        clear hK K
        have hB2 : Below wr.heap.size wr w2 := (bl_dr (bl_refl wr)).trans (hb2.mono (by simp))
        replace ho2 := ownsRow_lo (base' := wr.heap.size) ho2 (by simp)
        replace g0 := (hB2.cell (p := ⟨w1.heap.size, 0, none⟩) hsz2).trans g0
        replace g1 := (hB2.cell (p := ⟨w1.heap.size, 1, none⟩) hsz2).trans g1
        replace gf0 := (hB2.frozen (p := ⟨w1.heap.size, 0, none⟩) hsz2).trans gf0
        replace gf1 := (hB2.frozen (p := ⟨w1.heap.size, 1, none⟩) hsz2).trans gf1
        have hOl := Lib.hid (show ∀ g, (∃ u : Value, (Value.slice A2 k c2 = u ∨ ∃ j, us[j]? = some u) ∧ u.ownBlock = some g) → g < wr.heap.size from fun g hh => by
          obtain ⟨u, hu, hg⟩ := hh
          rcases hu with rfl | ⟨j, hj⟩
          · exact (hO.out.lt g hg).2
          · exact (hO.out.ltIn hj g hg).2)
        replace hO := Lib.hid (hO.out.below hB2)
        replace hbw := Lib.hid (hbw.out.trans (hB2.mono hbw.out.size))
        have l4b : w1.heap.size + 1 ≤ wr.heap.size := by omega
        replace hsz2 := Nat.lt_of_lt_of_le hsz2 hB2.size
        have hB2H := Lib.hid hB2
        have ho2H := Lib.hid ho2
        clear hb2 ho2 hB2 y1 lpw2
        repeat (first | ((with_reducible refine wpD_p (fun K hK => ?_)); go_simp; refine hK _ ?_; clear hK K) | ((with_reducible refine wpD_q (fun K hK => ?_)); go_simp; (first | refine hK _ ?_ | (go_bits; refine hK _ ?_) | (go_bits; go_simp; refine hK _ ?_)); clear hK K))
        with_reducible refine wpD_g (fun K hK => ?_)
        go_simp
        refine ⟨Grew.of_alloc _, hK _ _ ?_⟩
        clear hK K
        have hb5 : Hid (Below w2.heap.size w2 (w2.alloc (Obj.cells #[.string e.name, .slice A3 e.sides.length c3] 152))) := Lib.hid (by exact bel_)
        refine wpD_append_atN rfl _ _ 42 rfl (w1.heap.size + 1) 152 i2 (.agg #[.string ByteArray.empty, .slice none 0 0]) 2 40 Try.underlying42 hi2 hz02 hz12 hz22 rfl (by decide) (.slice A2 k c2) k (flatC encNU ((((tisOf ts).take k).map Ti.name).zip us)) (by go_simp) (by have := (hO.out.below hb5.out).outer; rwa [hul.out] at this) ⟨w2.heap.size, 0, none⟩ 1 1 [.string e.name, .slice A3 e.sides.length c3] (by go_simp) rfl ?hnews (fun x hx => by simp at hx; rcases hx with rfl | rfl <;> rfl) (by unfold maxLen; omega) (by omega) (by simp; omega) ?_
        case hnews =>
          have := cell_two_newN w2 (.string e.name) (.slice A3 e.sides.length c3) 152
          simpa using this
        intro v5 w5 hown5 hgrow5 hat5
        obtain ⟨A5, c5, rfl⟩ := ownsRow_form hown5
        have hP := (hO.out.below hb5.out).push (t := tiOf e) hul.out ((ownsRow_below ho2H.out hb5.out) |> fun h => ownsRow_lo h l4b) (fun g hg => by
          have h1 := (ho2H.out.lt g hg).1
          exact ⟨fun e' => by have := hOl.out g ⟨_, .inl rfl, e'⟩; omega, fun j u hu e' => by have := hOl.out g ⟨u, .inr ⟨j, hu⟩, e'⟩; omega⟩) hown5 hgrow5 hat5
        rw [← take_snoc (tisOf_get heH.out)] at hP
        have hbX : Below (w1.heap.size + 1) w2 w5 := (hb5.out.mono (by omega)).grown hgrow5 (by simp; omega) (fun g e => (hO.out.lt g e).1)
        have m0 := (hbX.cell (p := ⟨w1.heap.size, 0, none⟩) (by simp)).trans g0
        have mf0 := (hbX.frozen (p := ⟨w1.heap.size, 0, none⟩) (by simp)).trans gf0
        have m1 := (hbX.cell (p := ⟨w1.heap.size, 1, none⟩) (by simp)).trans g1
        have mf := (hbX.frozen (p := ⟨w1.heap.size, 1, none⟩) (by simp)).trans gf1
        have l5 : w1.heap.size < w5.heap.size := by have := hbX.size; omega
        have hPH := Lib.hid hP
        have hbXH := Lib.hid (hbw.out.trans (hbX.mono (by omega)))
        clear hown5 hgrow5 hat5 hP hbX g0 g1 gf0 gf1 hb5
        repeat (first | ((with_reducible refine wpD_p (fun K hK => ?_)); go_simp; refine hK _ ?_; clear hK K) | ((with_reducible refine wpD_q (fun K hK => ?_)); go_simp; (first | refine hK _ ?_ | (go_bits; refine hK _ ?_) | (go_bits; go_simp; refine hK _ ?_)); clear hK K))
        with_reducible refine wpD_b (fun K hK => ?_)
        go_simp
        refine hK _ _ ?_
        clear hK K
        with_reducible refine wpD_nil ?_
        go_wp2
        go_roundg (m - (k + 1))
        case measure => omega
        case rel =>
          exact ⟨k + 1, us ++ [.slice A3 e.sides.length c3], A5, c5, by omega, by go_num, Lib.hid (by simp [hul.out]), Lib.hid (hPH.out.setBelow (by simp) _), Lib.hid (hbXH.out.setCell (p := ⟨w1.heap.size, 1, none⟩) (by simp) _), by simp; omega, by go_simp, by go_simp, by go_simp, by go_simp⟩
      · obtain rfl : k = m := by omega
        clear hT2
        have s1 := hb1H.out.size
        have z0 : wr.cell? ⟨w.heap.size, 0, none⟩ = some (.slice none 0 0) := (hbw.out.cell (p := ⟨w.heap.size, 0, none⟩) b0).trans r0
        have z1 : wr.cell? ⟨w.heap.size, 1, none⟩ = some (.slice none 0 0) := (hbw.out.cell (p := ⟨w.heap.size, 1, none⟩) b0).trans r1
        have zf0 : wr.frozen? ⟨w.heap.size, 0, none⟩ = false := (hbw.out.frozen (p := ⟨w.heap.size, 0, none⟩) b0).trans rf0
        have zf1 : wr.frozen? ⟨w.heap.size, 1, none⟩ = false := (hbw.out.frozen (p := ⟨w.heap.size, 1, none⟩) b0).trans rf1
        have lz : w.heap.size < wr.heap.size := by omega
        go_wp2
        refine bodyPost_ret (v := .agg #[.slice A1 n cA, .slice A2 k c2]) (by simp only [results, Try.results109]; go_simp) rfl ?_
        refine ⟨_, rfl, ⟨_, _, us, rfl, ?_, ?_⟩, ?_⟩
        · rw [hlen1.out]
          refine ownsRow_lo (ownsRow_setB (ownsRow_setB (ownsRow_below hogH.out hbw.out) (by simp) _) (by simp) _) (by omega)
        · have h := hO.out
          rw [List.take_of_length_le (by rw [tisOf_len, hlt.out]; exact Nat.le_refl _)] at h
          exact ((h.setBelow (by simp; omega) _).setBelow (by simp; omega) _).rebase (by omega)
        · exact ((hb1H.out.trans (hbw.out.mono hb1H.out.size)).setCell (p := ⟨w.heap.size, 0, none⟩) (by simp) _).setCell (p := ⟨w.heap.size, 1, none⟩) (by simp) _
end Go.Proofs.Ytbipnnjkddffbaa
