import Derived.Test.YtpnahobgmemdjaaGreatDoorKR
import Derived.Test.YtpnahobgmemdjaaGreatDoorMm3
set_option linter.unusedSimpArgs false
set_option linter.unusedVariables false
/- Walks: the reference's digits and parts of a square. -/



namespace Go.Proofs.YtpnahobgmemdjaaGreatDoor
open Go.RowKit Go.Shelf
attribute [local go_sem] BelowBy.cell BelowBy.cell_drew stillUpon givesUpon

set_option maxRecDepth 100000 in
theorem lPower_any (d : Nat) (w : World) (hd : d ≤ 20) :
    Calls Tryz.prog 27 #[.int .i64 2, .int .i64 (d : Int)] w fun e w' => e = .returned (.int .i64 ((2 ^ d : Nat) : Int)) ∧ w = w' := by
  go_enter Tryz.func27, Tryz.ntmps27
  go_wp2
  go_loopg [5, 6] d (fun g v i wr => ∃ k : Nat, k + g = d ∧ i = .int .i64 (g : Int) ∧ v = .int .i64 ((2 ^ k : Nat) : Int) ∧ w = wr)
  case atStart => exact ⟨0, by omega, rfl, rfl, rfl⟩
  case round =>
    obtain ⟨k, hk, rfl, rfl, rfl⟩ := hrel
    obtain ⟨q, hq⟩ : ∃ q, 2 ^ k = q := ⟨_, rfl⟩
    have hqb : q ≤ 1048576 := by rw [← hq]; exact Nat.le_trans (Nat.pow_le_pow_right (by decide) (show k ≤ 20 by omega)) (by decide)
    have hq2 := Lib.hid (show 2 ^ (k + 1) = q * 2 by rw [Nat.pow_succ, hq])
    rw [hq]
    have hqH := Lib.hid hq
    clear hq
    by_cases hkd : 0 < gk
    · have hkI : (0 : Int) < (gk : Int) := by omega
      have hw : IntKind.i64.wrap ((q : Int) * 2) = (q : Int) * 2 := wrapT (by omega) (by omega)
      have hw2 : IntKind.i64.wrap ((gk : Int) - 1) = (gk : Int) - 1 := wrapT (by omega) (by omega)
      go_wp2
      go_roundg (gk - 1)
      case measure => omega
      case rel => exact ⟨k + 1, by omega, congrArg (Value.int IntKind.i64) (by omega), by rw [hq2.out]; exact congrArg (Value.int IntKind.i64) (by omega), rfl⟩
    · obtain rfl : gk = 0 := by omega
      obtain rfl : k = d := by omega
      go_wp2
      go_ret
      exact ⟨ret_int (by rw [hqH.out]), rfl⟩
set_option maxRecDepth 100000 in
set_option maxHeartbeats 2000000 in
theorem lParts_any (s : Nat) (w : World) (h1 : 4 ≤ s) (h2 : s ≤ 22) :
    Calls Tryz.prog 25 #[.int .i64 (s : Int)] w fun e w' => e = .returned (.tuple #[.int .i64 (dgP s : Int), .int .i64 (stP s : Int)]) ∧ w = w' := by
  obtain ⟨p1, p2, p3, p4, p5, p6⟩ := parts_ok h1 h2
  have hno := Lib.hid (fun d => parts_no (s := s) (d := d) h1 h2)
  obtain ⟨D, hD⟩ : ∃ D, dgP s = D := ⟨_, rfl⟩
  have hst := Lib.hid (show stP s = (s - D - 1) / 2 by unfold stP; rw [hD])
  rw [hD] at p1 p2 p3 p6 hno ⊢
  have p3H := Lib.hid p3
  clear p3 p4 p5 hD
  go_enter Tryz.func25, Tryz.ntmps25
  go_wp2
  go_loopg [4] D (fun g i wr => ∃ d : Nat, d + g = D + 1 ∧ 1 ≤ d ∧ d ≤ D ∧ i = .int .i64 (d : Int) ∧ w = wr)
  case atStart => exact ⟨1, by omega, by omega, by omega, rfl, rfl⟩
  case round =>
    obtain ⟨d, hd, hd1, hdD, rfl, rfl⟩ := hrel
    obtain ⟨r, hr⟩ : ∃ r : Nat, s - d - 1 = r := ⟨_, rfl⟩
    have e1 : (s : Int) - (d : Int) - 1 = (r : Int) := by omega
    have w1 : IntKind.i64.wrap ((s : Int) - (d : Int)) = (s : Int) - (d : Int) := wrapT (by omega) (by omega)
    have w2 : IntKind.i64.wrap ((s : Int) - (d : Int) - 1) = (r : Int) := by rw [wrapT (by omega) (by omega)]; exact e1
    have hdiv : Int.tdiv (r : Int) 2 = ((r / 2 : Nat) : Int) := rfl
    have hmod : Int.tmod (r : Int) 2 = ((r % 2 : Nat) : Int) := rfl
    have hrb : r ≤ 22 := by omega
    have w3 : IntKind.i64.wrap ((r / 2 : Nat) : Int) = ((r / 2 : Nat) : Int) := wrapT (by omega) (by omega)
    obtain ⟨q, hq⟩ : ∃ q, 2 ^ d = q := ⟨_, rfl⟩
    have hqH := Lib.hid hq
    have hrH := Lib.hid hr
    by_cases hok : okP s d = true
    · have hdD2 : d = D := by
        rcases Nat.lt_or_ge d D with hlt | hge
        · have := hno.out d hd1 hlt; rw [hok] at this; cases this
        · omega
      subst hdD2
      have ho := (okP_iff (by omega)).1 hok
      rw [hr, hq] at ho
      obtain ⟨o1, o2⟩ := ho
      obtain ⟨a, ha⟩ : ∃ a, r / 2 = a := ⟨_, rfl⟩
      have m0 : ((r % 2 : Nat) : Int) = 0 := by omega
      rw [ha] at hdiv w3 o2
      rw [m0] at hmod
      have hle : (a : Int) ≤ (q : Int) := by omega
      have haH := Lib.hid ha
      clear hok hr hq e1 o1 m0 ha
      go_wp2_with (go_at_call 27; refine (lPower_any d _ (by omega)).mono ?_; rw [hqH.out]; rintro e _ ⟨rfl, rfl⟩)
      refine bodyPost_ret (v := .tuple #[.int .i64 (d : Int), .int .i64 (a : Int)]) (by simp only [results, Tryz.results25]; go_simp) rfl ?_
      refine ⟨?_, rfl⟩
      rw [hst.out, hrH.out, haH.out]
    · have ho : ¬ ((s - d - 1) % 2 = 0 ∧ (s - d - 1) / 2 ≤ 2 ^ d) := fun h => hok ((okP_iff (by omega)).2 h)
      rw [hr, hq] at ho
      have hlt : d < D := by
        rcases Nat.lt_or_ge d D with hlt | hge
        · exact hlt
        · exfalso; apply hok; rw [show d = D by omega]; exact p3H.out
      obtain ⟨a, ha⟩ : ∃ a, r / 2 = a := ⟨_, rfl⟩
      rw [ha] at hdiv w3 ho
      by_cases o1 : r % 2 = 0
      · have m0 : ((r % 2 : Nat) : Int) = 0 := by omega
        rw [m0] at hmod
        have hle : ¬ (a : Int) ≤ (q : Int) := by omega
        clear hok hr hq e1 ho m0 ha o1
        go_wp2_with (go_at_call 27; refine (lPower_any d _ (by omega)).mono ?_; rw [hqH.out]; rintro e _ ⟨rfl, rfl⟩)
        go_roundg (D - d)
        case measure => omega
        case rel => exact ⟨d + 1, by omega, by omega, by omega, by go_num, rfl⟩
      · have m0 : ((r % 2 : Nat) : Int) = 1 := by omega
        rw [m0] at hmod
        clear hok hr hq e1 ho m0 ha o1
        go_wp2_with (go_at_call 27; refine (lPower_any d _ (by omega)).mono ?_; rw [hqH.out]; rintro e _ ⟨rfl, rfl⟩)
        go_roundg (D - d)
        case measure => omega
        case rel => exact ⟨d + 1, by omega, by omega, by omega, by go_num, rfl⟩
set_option maxRecDepth 100000 in
set_option maxHeartbeats 2000000 in
theorem lDigits_any (d m : Nat) (w : World) (hd : 1 ≤ d ∧ d ≤ 5) (hm : m ≤ 1000) :
    Calls Tryz.prog 26 #[.int .i64 2, .int .i64 (d : Int), .int .i64 (m : Int)] w fun e w' => ∃ gd, e = .returned (.slice (some ⟨gd, 0, none⟩) d d) ∧ w.heap.size ≤ gd ∧ w'.rowIs gd 2 d (fun i => .int .i64 ((bitN d m i : Nat) : Int)) ∧ Below w.heap.size w w' := by
  have hw1 : IntKind.i64.wrap ((d : Int) - 1) = (d : Int) - 1 := wrapT (by omega) (by omega)
  have hmk := fun W => run_makeN (P := Tryz.prog) 55 2 _ 1 8 Tryz.underlying55 infoI d (by omega) (by omega) W
  go_enter Tryz.func26, Tryz.ntmps26
  go_wp2
  have h0 := rowIs_make w #[.int .i64 0] d 2
  obtain ⟨W0, hW0⟩ : ∃ W0, W0 = w.alloc (.cells (madeCells #[Value.int .i64 0] d) 2) := ⟨_, rfl⟩
  have hb0 : Below w.heap.size w W0 := by rw [hW0]; exact bl_al (bl_refl _) _
  rw [← hW0] at h0
  rw [← hW0]
  have r0 : Hid (W0.rowIs w.heap.size 2 d (fun i => .int .i64 (((if d ≤ i then bitN d m i else 0 : Nat)) : Int))) := Lib.hid (rowIs_congr h0 (fun i hi => by rw [if_neg (by omega)]; simp [Nat.mod_one]))
  have hb0H := Lib.hid hb0
  clear hW0 h0 hb0 hmk
  go_loopg [2, 8] d (fun g n i wr => n = .int .i64 ((m / 2 ^ (d - g) : Nat) : Int) ∧ g ≤ d ∧ i = .int .i64 ((g : Int) - 1) ∧ Hid (wr.rowIs w.heap.size 2 d (fun i => .int .i64 (((if g ≤ i then bitN d m i else 0 : Nat)) : Int))) ∧ Hid (Below w.heap.size w wr))
  case atStart => exact ⟨by rw [Nat.sub_self, Nat.pow_zero, Nat.div_one], Nat.le_refl _, rfl, r0, hb0H⟩
  case round =>
    clear r0 hb0H
    obtain ⟨rfl, hg, rfl, hr, hb⟩ := hrel
    by_cases hg0 : 0 < gk
    · obtain ⟨k, rfl⟩ : ∃ k, gk = k + 1 := ⟨gk - 1, by omega⟩
      obtain ⟨a, ha⟩ : ∃ a, m / 2 ^ (d - (k + 1)) = a := ⟨_, rfl⟩
      have ham : a ≤ 1000 := by rw [← ha]; exact Nat.le_trans (Nat.div_le_self _ _) hm
      rw [ha, show ((k + 1 : Nat) : Int) - 1 = (k : Int) by omega]
      have haH := Lib.hid ha
      clear ha
      have hk0 : (0 : Int) ≤ (k : Int) := by omega
      have hmod : Int.tmod (a : Int) 2 = ((a % 2 : Nat) : Int) := rfl
      have hdiv : Int.tdiv (a : Int) 2 = ((a / 2 : Nat) : Int) := rfl
      have hw2 : IntKind.i64.wrap ((a % 2 : Nat) : Int) = ((a % 2 : Nat) : Int) := wrapT (by omega) (by omega)
      have hw3 : IntKind.i64.wrap ((a / 2 : Nat) : Int) = ((a / 2 : Nat) : Int) := wrapT (by omega) (by omega)
      have hw4 : IntKind.i64.wrap ((k : Int) - 1) = (k : Int) - 1 := wrapT (by omega) (by omega)
      have c2 := hr.out.cell (i := k) (by omega)
      have f2 := hr.out.frozen k
      have l2 := hr.out.lt
      have hs := Lib.hid (hr.out.set k (.int .i64 ((a % 2 : Nat) : Int)))
      go_wp2
      go_roundg k
      case measure => omega
      case rel => exact ⟨congrArg (Value.int IntKind.i64) (congrArg Int.ofNat (by rw [← haH.out, Nat.div_div_eq_div_mul, ← Nat.pow_succ, show (d - (k + 1)).succ = d - k by omega])), by omega, rfl, Lib.hid (rowIs_congr hs.out (fun i hi => by
        by_cases hik : i = k
        · rw [if_pos hik, if_pos (by omega)]
          subst hik
          unfold bitN
          rw [← haH.out, show d - 1 - i = d - (i + 1) by omega]
        · rw [if_neg hik]
          by_cases h2 : k + 1 ≤ i
          · rw [if_pos h2, if_pos (by omega)]
          · rw [if_neg h2, if_neg (by omega)])), Lib.hid (hb.out.setCell (p := ⟨w.heap.size, k, none⟩) (Nat.le_refl _) _)⟩
    · obtain rfl : gk = 0 := by omega
      rw [show (((0 : Nat) : Int) - 1) = -1 from rfl]
      go_wp2
      go_ret
      exact ⟨w.heap.size, rfl, Nat.le_refl _, rowIs_congr hr.out (fun i hi => by rw [if_pos (Nat.zero_le _)]), hb.out⟩
set_option maxRecDepth 100000 in
set_option maxHeartbeats 2000000 in
theorem lTurned_any (g c : Nat) (a0 a1 a2 a3 : Int) (w : World) (h0 : w.cell? ⟨g, 0, none⟩ = some (.int .i64 a0)) (h1 : w.cell? ⟨g, 1, none⟩ = some (.int .i64 a1)) (h2 : w.cell? ⟨g, 2, none⟩ = some (.int .i64 a2)) (h3 : w.cell? ⟨g, 3, none⟩ = some (.int .i64 a3)) (hl : g < w.heap.size) :
    Calls Tryz.prog 49 #[.slice (some ⟨g, 0, none⟩) 4 c] w fun e w' => e = .returned (.slice (some ⟨w.heap.size, 0, none⟩) 4 4) ∧ w' = (w.drew).alloc (Obj.cells #[.int .i64 a1, .int .i64 a0, .int .i64 a3, .int .i64 a2] 2) := by
  go_enter Tryz.func49, Tryz.ntmps49
  go_wp2
  refine wp_region_ord [(0, .q), (1, .q), (2, .q), (3, .q), (4, .q), (5, .q), (6, .q), (7, .q), (8, .q), (9, .q), (10, .q), (11, .q), (12, .g), (13, .q)] (by kernel_rfl) (by kernel_rfl) ?_
  simp only [pick, List.filterMap_cons, List.filterMap_nil, List.getElem?_toArray, List.getElem?_cons_zero, List.getElem?_cons_succ, Option.map_some]
  repeat (first | ((with_reducible refine wpD_p (fun K hK => ?_)); go_simp; refine hK _ ?_; clear hK K) | ((with_reducible refine wpD_q (fun K hK => ?_)); go_simp; (first | refine hK _ ?_ | (go_bits; refine hK _ ?_) | (go_bits; go_simp; refine hK _ ?_)); clear hK K))
  with_reducible refine wpD_g (fun K hK => ?_)
  go_simp
  refine ⟨Grew.of_alloc _, hK _ _ ?_⟩
  clear hK K
  repeat (first | ((with_reducible refine wpD_p (fun K hK => ?_)); go_simp; refine hK _ ?_; clear hK K) | ((with_reducible refine wpD_q (fun K hK => ?_)); go_simp; (first | refine hK _ ?_ | (go_bits; refine hK _ ?_) | (go_bits; go_simp; refine hK _ ?_)); clear hK K))
  with_reducible refine wpD_nil ?_
  go_wp2
  refine bodyPost_ret (v := .slice (some ⟨w.heap.size, 0, none⟩) 4 4) (by simp only [results, Tryz.results49]; go_simp) rfl ?_
  exact ⟨rfl, rfl⟩
end Go.Proofs.YtpnahobgmemdjaaGreatDoor
/- Plain: a glue and a tile are pushed to the reference's maker; names of a square's tiles. -/

namespace Go.Proofs.YtpnahobgmemdjaaGreatDoor
open Go.RowKit Go.Shelf
section
variable {w w5 : World} {b : Nat} {A1 B2 A5 : Option Addr} {c1 c2 c5 ng nt : Nat} {us : List Value} {gs : List Gl} {ts : List Ti} {X Y : Nat → Prop}
theorem SkAt.pushG {nm : ByteArray} {s : Int} (h : SkAt w b A1 c1 B2 c2 us (gs, ts) X) (hng : gs.length = ng) (hown5 : w5.ownsRow (b + 1) 69 2 (.slice A5 (ng + 1) c5) (ng + 1) (flatC encGl gs ++ [.string nm, .int .i64 s])) (hgrow5 : w.grownBy w5 (Value.slice A1 ng c1).ownBlock) :
    Sk (w5.setCell ⟨b, 0, none⟩ (.slice A5 (ng + 1) c5)) b (gs ++ [⟨nm, s⟩], ts) := by
  subst hng
  obtain ⟨hbx, ⟨M, f, hr⟩, hgl, hti, _⟩ := h
  simp only at hbx hgl hti
  have hne : (Value.slice A1 gs.length c1).ownBlock ≠ some b := fun e => by have := (hgl.lt _ e).1; omega
  have hl : (gs ++ [(⟨nm, s⟩ : Gl)]).length = gs.length + 1 := by simp
  refine ⟨A5, c5, B2, c2, us, ?_, ⟨_, _, (hr.of_block (hgrow5.block b hr.lt (fun e => hne e.symm))).set 0 _⟩, ?_, ?_, fun g hg => hg.elim⟩
  · show Bx _ b [.slice A5 (gs ++ [(⟨nm, s⟩ : Gl)]).length c5, .slice B2 ts.length c2]
    rw [hl]
    exact (hbx.grown hgrow5 hne).setSame 0 _
  · show World.ownsRow _ (b + 1) 69 2 (.slice A5 (gs ++ [(⟨nm, s⟩ : Gl)]).length c5) (gs ++ [(⟨nm, s⟩ : Gl)]).length (flatC encGl (gs ++ [(⟨nm, s⟩ : Gl)]))
    rw [hl, flatC_snoc]
    exact ownsRow_setB hown5 (p := ⟨b, 0, none⟩) (Nat.lt_succ_self _) _
  · exact (hti.keptG hgl (by decide) (by decide) hgrow5).setBelow (p := ⟨b, 0, none⟩) (Nat.lt_succ_self _) _
theorem SkAt.pushT {x : Value} {t : Ti} (h : SkAt w b A1 c1 B2 c2 us (gs, ts) X) (hnt : ts.length = nt) (hx : w.ownsRow (b + 1) 2 1 x t.sides.length (flatC encI t.sides))
    (hd : ∀ g, x.ownBlock = some g → (Value.slice B2 nt c2).ownBlock ≠ some g ∧ ∀ (k : Nat) (u : Value), us[k]? = some u → u.ownBlock ≠ some g)
    (hown5 : w5.ownsRow (b + 1) 73 2 (.slice A5 (nt + 1) c5) (nt + 1) (flatC encNU ((ts.map Ti.name).zip us) ++ [.string t.name, x])) (hgrow5 : w.grownBy w5 (Value.slice B2 nt c2).ownBlock)
    (hat : (Value.slice A5 (nt + 1) c5).ownBlock = (Value.slice B2 nt c2).ownBlock ∨ (Value.slice A5 (nt + 1) c5).ownBlock = some w.heap.size)
    (hY : ∀ g, Y g → X g ∧ x.ownBlock ≠ some g) (hYl : ∀ g, Y g → g < w.heap.size) :
    SkAt (w5.setCell ⟨b, 1, none⟩ (.slice A5 (nt + 1) c5)) b A1 c1 A5 c5 (us ++ [x]) (gs, ts ++ [t]) Y := by
  subst hnt
  obtain ⟨hbx, ⟨M, f, hr⟩, hgl, hti, hav⟩ := h
  simp only at hbx hgl hti hav
  have hul := hti.len
  have hne : (Value.slice B2 ts.length c2).ownBlock ≠ some b := fun e => by have := (hti.lt _ e).1; omega
  have hl : (ts ++ [t]).length = ts.length + 1 := by simp
  have hout := hti.outer
  rw [hul] at hout
  have hti5 := hti.push hul hx hd hown5 hgrow5 hat
  have hgl5 := ownsRow_keptO hgl hout (by decide) hgrow5
  refine ⟨?_, ⟨_, _, (hr.of_block (hgrow5.block b hr.lt (fun e => hne e.symm))).set 1 _⟩, ?_, ?_, fun g hg => ⟨(hav g (hY g hg).1).1, ?_, fun k u hu => ?_⟩⟩
  · show Bx _ b [.slice A1 gs.length c1, .slice A5 (ts ++ [t]).length c5]
    rw [hl]
    exact (hbx.grown hgrow5 hne).setSame 1 _
  · exact ownsRow_setB hgl5 (p := ⟨b, 1, none⟩) (Nat.lt_succ_self _) _
  · show OwnT _ (b + 1) 73 2 (.slice A5 (ts ++ [t]).length c5) _ _
    rw [hl]
    exact hti5.setBelow (p := ⟨b, 1, none⟩) (Nat.lt_succ_self _) _
  · show (Value.slice A5 (ts ++ [t]).length c5).ownBlock ≠ some g
    rw [hl]
    rcases hat with h | h
    · rw [h]; exact (hav g (hY g hg).1).2.1
    · rw [h]; intro e; injection e with e; have := hYl g hg; omega
  · rcases Nat.lt_or_ge k us.length with hj | hj
    · rw [List.getElem?_append_left hj] at hu
      exact (hav g (hY g hg).1).2.2 k u hu
    · have hlt := (List.getElem?_eq_some_iff.1 hu).1
      simp at hlt
      obtain rfl : k = us.length := by omega
      simp at hu
      subst hu
      exact (hY g hg).2
/-- .. kept where another block of x's is set or grown -/
theorem SkAt.keptX {row : Option Nat} {st : List Gl × List Ti} (h : SkAt w b A1 c1 B2 c2 us st X) (hg : w.grownBy w5 row) (hrow : ∀ g, row = some g → X g ∧ g ≠ b) : SkAt w5 b A1 c1 B2 c2 us st X := by
  have hne : row ≠ some b := fun e => (hrow _ e).2 rfl
  obtain ⟨M, f, hr⟩ := h.ty
  refine ⟨h.bx.grown hg hne, ⟨M, f, hr.of_block (hg.block b hr.lt (fun e => hne e.symm))⟩, h.gl.kept hg ?_, h.ti.kept hg (fun g e => ⟨(h.av g (hrow g e).1).2.1, fun k u hu => (h.av g (hrow g e).1).2.2 k u hu⟩), h.av⟩
  cases hb : (Value.slice A1 st.1.length c1).ownBlock with
  | none => exact .inl rfl
  | some g => exact .inr fun e => (h.av g (hrow g e.symm).1).1 hb
end
/-- names of tiles by codes -/
def NmQ (ts : List Ti) (L : Cd → Prop) : Prop := ∀ t ∈ ts, ∃ c, L c ∧ t.name = tqn c
theorem NmQ.nil (L : Cd → Prop) : NmQ [] L := fun t ht => by cases ht
theorem NmQ.mono {ts : List Ti} {L L' : Cd → Prop} (h : NmQ ts L) (hL : ∀ c, L c → L' c) : NmQ ts L' := fun t ht => by
  obtain ⟨c, h1, h2⟩ := h t ht
  exact ⟨c, hL c h1, h2⟩
theorem NmQ.app {ts us : List Ti} {L : Cd → Prop} (h : NmQ ts L) (k : NmQ us L) : NmQ (ts ++ us) L := fun t ht => by
  rcases List.mem_append.1 ht with h1 | h1
  · exact h t h1
  · exact k t h1
theorem NmQ.one {gs : List Gl} {c : Cd} {l : List (Option Cd)} {L : Cd → Prop} (h : L c) : NmQ [tlQ gs c l] L := fun t ht => by
  simp only [List.mem_cons, List.not_mem_nil, or_false] at ht
  subst ht
  exact ⟨c, h, rfl⟩
theorem NmQ.fresh {ts : List Ti} {L : Cd → Prop} {d : Cd} {nm : ByteArray} (h : NmQ ts L) (hL : ∀ c, L c → c ∈ tV ∧ c ≠ d) (hd : d ∈ tV) (hn : tqn d = nm) : ∀ t ∈ ts, t.name ≠ nm := fun t ht he => by
  obtain ⟨c, h1, h2⟩ := h t ht
  exact (hL c h1).2 (tqn_inj (hL c h1).1 hd (by rw [← h2, he, hn]))
/-- the reference's tiles of a counter, before they are turned -/
def cntU (gs : List Gl) (p n : Nat) : List Ti := (List.range n).map fun j => tlQ gs (0, p, j) (cntS p j)
theorem cntU_succ (gs : List Gl) (p n : Nat) : cntU gs p (n + 1) = cntU gs p n ++ [tlQ gs (0, p, n) (cntS p n)] := by simp [cntU, List.range_succ]
theorem cntU_len (gs : List Gl) (p n : Nat) : (cntU gs p n).length = n := by simp [cntU]
theorem nm_cntU {gs : List Gl} {p : Nat} : ∀ n, NmQ (cntU gs p n) (fun c => c.1 = 0 ∧ c.2.1 = p ∧ c.2.2 < n)
  | 0 => NmQ.nil _
  | n + 1 => by
    rw [cntU_succ]
    exact ((nm_cntU n).mono (fun c h => by omega)).app (NmQ.one ⟨rfl, rfl, Nat.lt_succ_self n⟩)
theorem nm_cntT {gs : List Gl} {p n : Nat} : NmQ (cntT gs p n) (fun c => c.1 = 0 ∧ c.2.1 = p ∧ c.2.2 < n) := fun t ht => by
  obtain ⟨j, hj, rfl⟩ := List.mem_map.1 ht
  exact ⟨(0, p, j), ⟨rfl, rfl, List.mem_range.1 hj⟩, rfl⟩
theorem cntU_get {gs : List Gl} {p n j : Nat} (h : j < n) : (cntU gs p n)[j]? = some (tlQ gs (0, p, j) (cntS p j)) := by simp [cntU, h]
theorem sglue_q {b : Nat} {cs : List Cd} {ts : List Ti} {c : Cd} {nm : ByteArray} {s : Int} {w : World} (h : Sk w b (glQ cs, ts)) (hn : gqn c = nm) (hs : gsq c = s) (hcs : ∀ d ∈ cs, d ∈ gV) (hc : c ∈ gV) (hno : c ∉ cs) (hl : cs.length ≤ 100) :
    Calls Tryz.prog 28 #[.pointer (some ⟨b, 0, none⟩), .string nm, .int .i64 s] w fun e w' => (∃ k : Int, e = .returned (.int .i64 k)) ∧ Sk w' b (glQ (cs ++ [c]), ts) ∧ Far SkTs w w' ∧ Below b w w' := by
  subst hn hs
  refine (sglue_any b (glQ cs, ts) (gqn c) (gsq c) w h (fresh_q hcs hc hno) (by rw [glQ_len]; omega)).mono ?_
  rintro e w' ⟨he, h1, h2, h3⟩
  unfold addG at h1
  rw [← glQ_snoc] at h1
  exact ⟨⟨_, he⟩, h1, h2, h3⟩
theorem stileX_q {X : Nat → Prop} {b L : Nat} {gs : List Gl} {ts : List Ti} {c : Cd} {nm s0 s1 s2 s3 : ByteArray} {o0 o1 o2 o3 : Option Cd} {w : World} (h : SkX w b (gs, ts) X) (hX : ∀ g, X g → g < w.heap.size) (hn : tqn c = nm) (h0 : (numG gs s0 : Int) = sdQ gs o0) (h1 : (numG gs s1 : Int) = sdQ gs o1) (h2 : (numG gs s2 : Int) = sdQ gs o2) (h3 : (numG gs s3 : Int) = sdQ gs o3) (hf : ∀ t ∈ ts, t.name ≠ nm) (hg : gs.length ≤ 1000) (hl : ts.length = L) (hL : L ≤ 1000) :
    Calls Tryz.prog 31 #[.pointer (some ⟨b, 0, none⟩), .string nm, .string s0, .string s1, .string s2, .string s3] w fun e w' => e = .returned (.int .i64 (L : Int)) ∧ SkX w' b (gs, ts ++ [tlQ gs c [o0, o1, o2, o3]]) X ∧ Far SkTs w w' ∧ Below b w w' := by
  subst hl hn
  refine (stileX_any X b (gs, ts) (tqn c) s0 s1 s2 s3 w h hX hf hg hL).mono ?_
  rintro e w' ⟨he, k1, k2, k3⟩
  unfold addT sidesG at k1
  simp only [List.map_cons, List.map_nil, h0, h1, h2, h3] at k1
  exact ⟨he, k1, k2, k3⟩
end Go.Proofs.YtpnahobgmemdjaaGreatDoor
/- Plain: the tiles of one maker go to another one that shares its glues. -/

namespace Go.Proofs.YtpnahobgmemdjaaGreatDoor
open Go.RowKit Go.Shelf
theorem own_kept_ne {w w' : World} {base s n : Nat} {e : TypeId} {v : Value} {xs : List Value} {row : Option Nat} (h : w.ownsRow base e s v n xs) (hg : w.grownBy w' row) (hne : ∀ g, row = some g → v.ownBlock ≠ some g) : w'.ownsRow base e s v n xs := by
  refine h.kept hg ?_
  cases hb : v.ownBlock with
  | none => exact .inl rfl
  | some g => exact .inr fun e => hne g e.symm hb
theorem set_grown (w : World) (q i : Nat) (u : Value) : w.grownBy (w.setCell ⟨q, i, none⟩ u) (some q) :=
  ⟨rfl, rfl, rfl, by simp, fun k hk hne => Below.heap_setCell _ _ _ _ (fun e => hne (by rw [e]))⟩
/-- what the tiles yet to go lie in -/
def Xav (xb g4 : Nat) (us : List Value) (i : Nat) (q : Nat) : Prop := q = xb ∨ q = g4 ∨ ∃ j u, i ≤ j ∧ us[j]? = some u ∧ u.ownBlock = some q
structure Xf (W : World) (b xb g4 i : Nat) (A3 : Option Addr) (c3 c4 p M : Nat) (us : List Value) (L : Nat → List Int) (gs : List Gl) (ts : List Ti) : Prop where
  m : ∃ B2 c2 ums, SkAt W b A3 c3 B2 c2 ums (gs, ts) (Xav xb g4 us i)
  bx : Bx W xb [.slice A3 gs.length c3, .slice (some ⟨g4, 0, none⟩) 11 c4]
  row : ∃ f, W.rowIs g4 73 M f ∧ (∀ j, i ≤ j → j < 11 → f (j * 2) = .string (tqn (0, p, j))) ∧ (∀ j u, i ≤ j → us[j]? = some u → f (j * 2 + 1) = u)
  big : 22 ≤ M
  own : ∀ j u, i ≤ j → us[j]? = some u → W.ownsRow (xb + 1) 2 1 u (L j).length (flatC encI (L j))
  len : us.length = 11
  lt : b < xb ∧ xb < g4
  ap : ∀ j k u u' g, i ≤ j → i ≤ k → us[j]? = some u → us[k]? = some u' → u.ownBlock = some g → u'.ownBlock = some g → j = k
  off : ∀ j u g, i ≤ j → us[j]? = some u → u.ownBlock = some g → g ≠ g4
section
variable {W W' w5 : World} {b xb g4 i : Nat} {A3 B2 A5 : Option Addr} {c3 c4 p M c2 c5 nt : Nat} {us ums : List Value} {L L' : Nat → List Int} {gs : List Gl} {ts : List Ti}
theorem Xf.below (h : Xf W b xb g4 i A3 c3 c4 p M us L gs ts) (hb : Below W.heap.size W W') : Xf W' b xb g4 i A3 c3 c4 p M us L gs ts := by
  obtain ⟨⟨B2, c2, ums, hm⟩, h2, ⟨f, hr, hf⟩, h4, h5, h6, h7, h8, h9⟩ := h
  exact ⟨⟨B2, c2, ums, hm.below hb⟩, h2.below hb, ⟨f, hr.of_block (hb.block g4 hr.lt), hf⟩, h4, fun j u hj hu => ownsRow_below (h5 j u hj hu) hb, h6, h7, h8, h9⟩
theorem Xf.congr (h : Xf W b xb g4 i A3 c3 c4 p M us L gs ts) (he : ∀ j, i ≤ j → L j = L' j) : Xf W b xb g4 i A3 c3 c4 p M us L' gs ts :=
  ⟨h.m, h.bx, h.row, h.big, fun j u hj hu => by rw [← he j hj]; exact h.own j u hj hu, h.len, h.lt, h.ap, h.off⟩
theorem Xf.turn {x : Value} {l : List Int} (h : Xf W b xb g4 i A3 c3 c4 p M us L gs ts) (hb : Below W.heap.size W W') (hi : i < 11) (hx : W'.ownsRow (xb + 1) 2 1 x l.length (flatC encI l)) (hxn : ∀ g, x.ownBlock = some g → W.heap.size ≤ g) :
    Xf (W'.setCell ⟨g4, i * 2 + 1, none⟩ x) b xb g4 i A3 c3 c4 p M (us.set i x) (fun j => if j = i then l else L j) gs ts := by
  have hg := set_grown W' g4 (i * 2 + 1) x
  have hset : ∀ {j u}, (us.set i x)[j]? = some u → (j = i ∧ u = x) ∨ (j ≠ i ∧ us[j]? = some u) := fun {j u} hu => by
    rw [List.getElem?_set] at hu
    by_cases hji : i = j
    · rw [if_pos hji] at hu
      split at hu
      · injection hu with hu; exact .inl ⟨hji.symm, hu.symm⟩
      · cases hu
    · rw [if_neg hji] at hu
      exact .inr ⟨fun e => hji e.symm, hu⟩
  obtain ⟨⟨B2, c2, ums, hm⟩, h2, ⟨f, hr, hf1, hf2⟩, h4, h5, h6, h7, h8, h9⟩ := h
  have hgx : ∀ g, x.ownBlock = some g → g ≠ g4 := fun g e => by have := hxn g e; have := hr.lt; omega
  refine ⟨⟨B2, c2, ums, ?_⟩, (h2.below hb).setOther (a := ⟨g4, _, none⟩) (show g4 ≠ xb by omega) _, ⟨_, (hr.of_block (hb.block g4 hr.lt)).set (i * 2 + 1) x, fun j hj hj2 => ?_, fun j u hj hu => ?_⟩, h4, fun j u hj hu => ?_, by rw [List.length_set]; exact h6, h7, fun j k u u' g hj hk hu hu' e e' => ?_, fun j u g hj hu e => ?_⟩
  · have hm' := hm.below hb
    have hk := hm'.keptX hg (fun g e => by injection e with e; subst e; exact ⟨.inr (.inl rfl), by omega⟩)
    refine ⟨hk.bx, hk.ty, hk.gl, hk.ti, fun q hq => ?_⟩
    rcases hq with rfl | rfl | ⟨j, u, hj, hu, e⟩
    · exact hm.av _ (.inl rfl)
    · exact hm.av _ (.inr (.inl rfl))
    · rcases hset hu with ⟨rfl, rfl⟩ | ⟨hne, hu⟩
      · have hq := hxn q e
        exact ⟨fun e2 => by have := (hm.gl.lt _ e2).2; omega, fun e2 => by have := (hm.ti.lt _ e2).2; omega, fun k u hu e2 => by have := (hm.ti.ltIn hu _ e2).2; omega⟩
      · exact hm.av _ (.inr (.inr ⟨j, u, hj, hu, e⟩))
  · rw [if_neg (by omega)]; exact hf1 j hj hj2
  · rcases hset hu with ⟨rfl, rfl⟩ | ⟨hne, hu⟩
    · rw [if_pos rfl]
    · rw [if_neg (by omega)]; exact hf2 j u hj hu
  · rcases hset hu with ⟨rfl, rfl⟩ | ⟨hne, hu⟩
    · simp only [if_true]
      exact own_kept_ne hx hg (fun g e e2 => by injection e with e; subst e; exact hgx _ e2 rfl)
    · simp only [if_neg hne]
      exact own_kept_ne (ownsRow_below (h5 j u hj hu) hb) hg (fun g e e2 => by injection e with e; subst e; exact h9 j u _ hj hu e2 rfl)
  · rcases hset hu with ⟨rfl, rfl⟩ | ⟨hne, hu2⟩
    · rcases hset hu' with ⟨rfl, rfl⟩ | ⟨hne', hu3⟩
      · rfl
      · have := hxn g e; have := ((h5 k u' hk hu3).lt g e').2; omega
    · rcases hset hu' with ⟨rfl, rfl⟩ | ⟨hne', hu3⟩
      · have := hxn g e'; have := ((h5 j u hj hu2).lt g e).2; omega
      · exact h8 j k u u' g hj hk hu2 hu3 e e'
  · rcases hset hu with ⟨rfl, rfl⟩ | ⟨hne, hu⟩
    · exact hgx g e
    · exact h9 j u g hj hu e
theorem Xf.push {u : Value} (h : Xf W b xb g4 i A3 c3 c4 p M us L gs ts) (hm : SkAt W b A3 c3 B2 c2 ums (gs, ts) (Xav xb g4 us i)) (hi : us[i]? = some u) (hnt : ts.length = nt)
    (hown5 : w5.ownsRow (b + 1) 73 2 (.slice A5 (nt + 1) c5) (nt + 1) (flatC encNU ((ts.map Ti.name).zip ums) ++ [.string (tqn (0, p, i)), u])) (hgrow5 : W.grownBy w5 (Value.slice B2 nt c2).ownBlock)
    (hat : (Value.slice A5 (nt + 1) c5).ownBlock = (Value.slice B2 nt c2).ownBlock ∨ (Value.slice A5 (nt + 1) c5).ownBlock = some W.heap.size) :
    Xf (w5.setCell ⟨b, 1, none⟩ (.slice A5 (nt + 1) c5)) b xb g4 (i + 1) A3 c3 c4 p M us L gs (ts ++ [⟨tqn (0, p, i), L i⟩]) := by
  obtain ⟨-, h2, ⟨f, hr, hf1, hf2⟩, h4, h5, h6, h7, h8, h9⟩ := h
  subst hnt
  have hou := h5 i u (Nat.le_refl _) hi
  have hXi : ∀ g, u.ownBlock = some g → Xav xb g4 us i g := fun g e => .inr (.inr ⟨i, u, Nat.le_refl _, hi, e⟩)
  have hne : ∀ q, Xav xb g4 us i q → (Value.slice B2 ts.length c2).ownBlock ≠ some q := fun q hq => (hm.av q hq).2.1
  have hg := set_grown w5 b 1 (.slice A5 (ts.length + 1) c5)
  have hX1 : ∀ q, Xav xb g4 us (i + 1) q → Xav xb g4 us i q := fun q hq => by
    rcases hq with h | h | ⟨j, v, hj, hv, e⟩
    · exact .inl h
    · exact .inr (.inl h)
    · exact .inr (.inr ⟨j, v, by omega, hv, e⟩)
  refine ⟨⟨A5, c5, ums ++ [u], hm.pushT (t := ⟨tqn (0, p, i), L i⟩) rfl (ownsRow_lo hou (by omega)) (fun g e => (hm.av g (hXi g e)).2) hown5 hgrow5 hat (fun q hq => ⟨hX1 q hq, fun e => ?_⟩) (fun q hq => ?_)⟩, ?_, ⟨f, ?_, fun j hj => hf1 j (by omega), fun j v hj => hf2 j v (by omega)⟩, h4, fun j v hj hv => ?_, h6, h7, fun j k v v' g hj hk => h8 j k v v' g (by omega) (by omega), fun j v g hj => h9 j v g (by omega)⟩
  · rcases hq with h | h | ⟨j, v, hj, hv, e'⟩
    · have := (hou.lt q e).1; omega
    · exact h9 i u q (Nat.le_refl _) hi e h
    · have := h8 i j u v q (Nat.le_refl _) (by omega) hi hv e e'; omega
  · rcases hq with h | h | ⟨j, v, hj, hv, e'⟩
    · rw [h]; exact h2.lt
    · rw [h]; exact hr.lt
    · exact ((h5 j v (by omega) hv).lt q e').2
  · exact (h2.grown hgrow5 (hne xb (.inl rfl))).setOther (a := ⟨b, 1, none⟩) (show b ≠ xb by omega) _
  · exact (hr.of_block (hgrow5.block g4 hr.lt (fun e => hne g4 (.inr (.inl rfl)) e.symm))).of_block (Below.heap_setCell _ _ _ _ (show g4 ≠ b by omega))
  · have ho := h5 j v (by omega) hv
    exact own_kept_ne (own_kept_ne ho hgrow5 (fun g e e2 => hne g (.inr (.inr ⟨j, v, by omega, hv, e2⟩)) e)) hg (fun g e e2 => by injection e with e; have := (ho.lt g e2).1; omega)
end
theorem rowIs_of_ownsQ {w : World} {base g n cap size : Nat} {e : TypeId} {xs : List Value} (h : w.ownsRow base e size (.slice (some ⟨g, 0, none⟩) n cap) n xs) :
    ∃ f, w.rowIs g e (cap * size) f ∧ (∀ j u, xs[j]? = some u → f j = u) ∧ base ≤ g ∧ n ≤ cap ∧ cap ≤ maxLen ∧ xs.length = n * size := by
  rcases h.2 with ⟨h0, _⟩ | ⟨g', cap', cur, hv, hb, hh, hnc, hm, hs, ht⟩
  · cases h0
  · injection hv with a1 a2 a3
    injection a1 with a1
    injection a1 with a1 _ _
    subst a1 a3
    refine ⟨fun j => cur.getD j undef, ⟨cur, hh, hs, fun i hi => ?_⟩, fun j u hj => ?_, hb, hnc, hm, h.1⟩
    · have : i < cur.size := by omega
      simp [this]
    · have hjl := (List.getElem?_eq_some_iff.1 hj).1
      rw [h.1] at hjl
      rw [← ht, List.getElem?_take_of_lt hjl, Array.getElem?_toList] at hj
      simp [Array.getD_eq_getD_getElem?, hj]
theorem own_ne_ownQ {w : World} {base base' size s2 n n' g : Nat} {e T : TypeId} {v v' : Value} {xs xs' : List Value} (h : w.ownsRow base e size v n xs) (k : w.ownsRow base' T s2 v' n' xs') (hne : e ≠ T) (hg : v'.ownBlock = some g) : v.ownBlock ≠ some g := by
  rcases k.2 with ⟨rfl, _⟩ | ⟨g', cap, cur, rfl, _, hh, _⟩
  · cases hg
  · have e1 : some g' = some g := hg
    injection e1 with e1
    subst e1
    exact own_ne_row h (N := cur.size) (f := fun j => cur.getD j undef) ⟨cur, hh, rfl, fun i hi => by simp [hi]⟩ hne
theorem Xf.start {w W : World} {b p : Nat} {A1 B2 A3 B4 : Option Addr} {c1 c2 c3 c4 : Nat} {us us4 : List Value} {gs0 gs : List Gl} {ts0 : List Ti} {X X' : Nat → Prop} (hm : SkAt w b A1 c1 B2 c2 us (gs0, ts0) X) (hb : Below w.heap.size w W) (hx : SkAt W w.heap.size A3 c3 B4 c4 us4 (gs, cntU gs p 11) X') :
    ∃ g4 M, B4 = some ⟨g4, 0, none⟩ ∧ Xf (W.setCell ⟨b, 0, none⟩ (.slice A3 gs.length c3)) b w.heap.size g4 0 A3 c3 c4 p M us4 (fun j => (cntS p j).map (sdQ gs)) gs ts0 := by
  have hm' := hm.below hb
  obtain ⟨hxb, hxty, hxg, hxt, -⟩ := hx
  simp only at hxb hxg hxt
  have hlb := hm.bx.lt
  have hlen : us4.length = 11 := by rw [hxt.len, cntU_len]
  have hout := hxt.outer
  rw [hlen, cntU_len] at hout
  rw [cntU_len] at hxb
  obtain ⟨u0, hu0⟩ : ∃ u, us4[0]? = some u := ⟨_, List.getElem?_eq_getElem (by omega)⟩
  obtain ⟨g4, c', hv, hg4, hg4l, _⟩ := hxt.outAt hu0
  rw [cntU_len] at hv
  injection hv with hB4 _ _
  subst hB4
  obtain ⟨f, hr, hf, _, hcap, _, _⟩ := rowIs_of_ownsQ hout
  have hzip : ∀ j u, us4[j]? = some u → (((cntU gs p 11).map Ti.name).zip us4)[j]? = some (tqn (0, p, j), u) := fun j u hu => by
    have hj := (List.getElem?_eq_some_iff.1 hu).1
    rw [List.getElem?_zip_eq_some]
    exact ⟨by rw [List.getElem?_map, cntU_get (by omega)]; rfl, hu⟩
  have hown : ∀ j u, us4[j]? = some u → W.ownsRow (w.heap.size + 1) 2 1 u ((cntS p j).map (sdQ gs)).length (flatC encI ((cntS p j).map (sdQ gs))) := fun j u hu => by
    have hj := (List.getElem?_eq_some_iff.1 hu).1
    exact hxt.inner j u _ hu (cntU_get (by omega))
  have hoff : ∀ (j : Nat) (u : Value) (g : Nat), us4[j]? = some u → u.ownBlock = some g → g ≠ g4 := fun j u g hu e e2 => by
    subst e2
    exact hxt.off j u _ hu e rfl
  refine ⟨g4, c4 * 2, rfl, ⟨B2, c2, us, ?_, ?_, ?_, ?_, ?_⟩, ?_, ⟨f, hr.of_block (Below.heap_setCell _ _ _ _ (show g4 ≠ b by omega)), fun j _ hj => ?_, fun j u _ hu => ?_⟩, by omega, fun j u _ hu => ?_, hlen, ⟨hlb, by omega⟩, fun j k u u' g _ _ => hxt.apart j k u u' g, fun j u g _ => hoff j u g⟩
  · exact hm'.bx.setSame 0 _
  · obtain ⟨M0, f0, h0⟩ := hm'.ty
    exact ⟨_, _, h0.set 0 _⟩
  · exact ownsRow_setB (ownsRow_lo hxg (show b + 1 ≤ w.heap.size + 1 by omega)) (p := ⟨b, 0, none⟩) (Nat.lt_succ_self _) _
  · exact hm'.ti.setBelow (p := ⟨b, 0, none⟩) (Nat.lt_succ_self _) _
  · have hlo : ∀ q, w.heap.size ≤ q → (Value.slice B2 ts0.length c2).ownBlock ≠ some q ∧ ∀ (k : Nat) (u : Value), us[k]? = some u → u.ownBlock ≠ some q := fun q hq =>
      ⟨fun e => by have := (hm.ti.lt _ e).2; omega, fun k u hu e => by have := (hm.ti.ltIn hu _ e).2; omega⟩
    intro q hq
    rcases hq with rfl | rfl | ⟨j, u, _, hu, e⟩
    · exact ⟨fun e => by have := (hxg.lt _ e).1; omega, hlo _ (Nat.le_refl _)⟩
    · exact ⟨own_ne_row hxg hr (by decide), hlo _ (by omega)⟩
    · exact ⟨own_ne_ownQ hxg (hown j u hu) (by decide) e, hlo _ (by have := ((hown j u hu).lt q e).1; omega)⟩
  · exact hxb.setOther (a := ⟨b, 0, none⟩) (show b ≠ w.heap.size by omega) _
  · obtain ⟨u, hu⟩ : ∃ u, us4[j]? = some u := ⟨_, List.getElem?_eq_getElem (by omega)⟩
    exact hf _ _ ((flatC_get encNU_len _ j _ (hzip j u hu) 0 (by omega)).trans rfl)
  · exact hf _ _ ((flatC_get encNU_len _ j _ (hzip j u hu) 1 (by omega)).trans rfl)
  · exact ownsRow_setB (hown j u hu) (p := ⟨b, 0, none⟩) (show b < w.heap.size + 1 by omega) _
end Go.Proofs.YtpnahobgmemdjaaGreatDoor
/- Walks: the reference's counter tiles of a square. -/

namespace Go.Proofs.YtpnahobgmemdjaaGreatDoor
open Go.RowKit Go.Shelf
attribute [local go_sem] BelowBy.cell BelowBy.cell_drew stillUpon givesUpon

theorem zz_V {cs0 : List Cd} {p k : Nat} (hcs : ∀ d ∈ cs0, d ∈ gV) (hp : p < 2) (hk : k ≤ 9) : ∀ d ∈ cs0 ++ cC p k, d ∈ gV := fun d hd => by
  rcases List.mem_append.1 hd with h | h
  · exact hcs d h
  · rw [mem_cC] at h; exact in_gV (by omega)
theorem zz_no {cs0 : List Cd} {p k : Nat} (hno : ∀ d ∈ cs0, ¬ (d.1 = 0 ∧ d.2.1 = p)) : ((0, p, k) : Cd) ∉ cs0 ++ cC p k := fun hc => by
  rcases List.mem_append.1 hc with h | h
  · exact hno _ h ⟨rfl, rfl⟩
  · rw [mem_cC] at h; simp only at h; omega
theorem nmT {p d c : Nat} (hp : p < 2) (hd : d < 2) (hc : c < 2) : (((prfQ p ++ ⟨#[100]⟩) ++ decN d) ++ ⟨#[99]⟩) ++ decN c = tqn (0, p, 2 * d + c) := by
  rw [tqn_T (in_tV (by simp <;> omega)), decN_T (by omega), decN_T (by omega)]
  rcases (show p = 0 ∨ p = 1 by omega) with rfl | rfl <;> rcases (show d = 0 ∨ d = 1 by omega) with rfl | rfl <;> rcases (show c = 0 ∨ c = 1 by omega) with rfl | rfl <;> decide +kernel
theorem nmV {p d : Nat} (hp : p < 2) (hd : d < 2) : (prfQ p ++ ⟨#[118]⟩) ++ decN d = gqn (0, p, d) := by
  rw [gqn_T (in_gV (by simp <;> omega)), decN_T (by omega)]
  rcases (show p = 0 ∨ p = 1 by omega) with rfl | rfl <;> rcases (show d = 0 ∨ d = 1 by omega) with rfl | rfl <;> decide +kernel
theorem nmC {p d : Nat} (hp : p < 2) (hd : d < 2) : (prfQ p ++ ⟨#[99]⟩) ++ decN d = gqn (0, p, 2 + d) := by
  rw [gqn_T (in_gV (by simp <;> omega)), decN_T (by omega)]
  rcases (show p = 0 ∨ p = 1 by omega) with rfl | rfl <;> rcases (show d = 0 ∨ d = 1 by omega) with rfl | rfl <;> decide +kernel
theorem nmCopy {p d : Nat} (hp : p < 2) (hd : d < 2) : (prfQ p ++ ⟨#[99, 111, 112, 121]⟩) ++ decN d = tqn (0, p, 7 + d) := by
  rw [tqn_T (in_tV (by simp <;> omega)), decN_T (by omega)]
  rcases (show p = 0 ∨ p = 1 by omega) with rfl | rfl <;> rcases (show d = 0 ∨ d = 1 by omega) with rfl | rfl <;> decide +kernel
theorem cntS_dc {p d c : Nat} (hd : d < 2) (hc : c < 2) : cntS p (2 * d + c) = [some (0, p, (d + c) % 2), some (0, p, 2 + c), some (0, p, d), some (0, p, 2 + (d + c) / 2)] := by
  rcases (show d = 0 ∨ d = 1 by omega) with rfl | rfl <;> rcases (show c = 0 ∨ c = 1 by omega) with rfl | rfl <;> rfl
theorem cntS_copy {p d : Nat} (hd : d < 2) : cntS p (7 + d) = [some (0, p, d), some (0, p, 5), some (0, p, d), some (0, p, 5)] := by
  rcases (show d = 0 ∨ d = 1 by omega) with rfl | rfl <;> rfl
theorem fresh_U {gs : List Gl} {p n : Nat} {nm : ByteArray} (hp : p < 2) (hn : n < 11) (h : tqn (0, p, n) = nm) : ∀ t ∈ cntU gs p n, t.name ≠ nm :=
  (nm_cntU n).fresh (fun c h => ⟨in_tV (.inl (by omega)), fun e => by subst e; exact Nat.lt_irrefl _ h.2.2⟩) (in_tV (by simp <;> omega)) h
theorem cat_szQ {wd d nm : ByteArray} {a c : Nat} (h : wd ++ d = nm) (h1 : wd.size ≤ a) (h2 : d.size ≤ c) : nm.size ≤ a + c := by
  rw [← h, ByteArray.size_append]; omega
theorem trn_eq {gs : List Gl} {l : List (Option Cd)} {a0 a1 a2 a3 : Int} (h4 : l.length = 4) (h : l.map (sdQ gs) = [a0, a1, a2, a3]) : (trnQ 1 l).map (sdQ gs) = [a1, a0, a3, a2] := by
  match l, h4 with
  | [o0, o1, o2, o3], _ =>
    simp only [List.map_cons, List.map_nil, List.cons.injEq, and_true] at h
    obtain ⟨rfl, rfl, rfl, rfl⟩ := h
    rfl
set_option maxRecDepth 100000 in
set_option maxHeartbeats 8000000 in
theorem zigzag_any (b p : Nat) (cs0 : List Cd) (ts0 : List Ti) (P : ByteArray) (tr : Bool) (w : World) (hp : p < 2) (hP : prfQ p = P) (htr : decide (p ≠ 0) = tr) (hcs : ∀ d ∈ cs0, d ∈ gV) (hno : ∀ d ∈ cs0, ¬ (d.1 = 0 ∧ d.2.1 = p)) (hlc : cs0.length ≤ 40) (hlt0 : ts0.length ≤ 40) (h : Sk w b (glQ cs0, ts0)) :
    Calls Tryz.prog 29 #[.pointer (some ⟨b, 0, none⟩), .string P, .bool tr] w fun e w' => e = .returned (.tuple #[]) ∧ Sk w' b (glQ (cs0 ++ cC p 9), ts0 ++ cntT (glQ (cs0 ++ cC p 9)) p 11) ∧ Below b w w' := by
  obtain ⟨iG, hiG, hG0, hG1, hG2⟩ := info_parts infoGl
  obtain ⟨iT, hiT, hT0, hT1, hT2⟩ := info_parts infoTi
  obtain ⟨A1, c1, B2, c2, us, hm⟩ := h
  obtain ⟨gs0, hgs0⟩ : ∃ gs, glQ cs0 = gs := ⟨_, rfl⟩
  rw [hgs0] at hm
  obtain ⟨n0, hn0⟩ : ∃ n, gs0.length = n := ⟨_, rfl⟩
  have hn40 : n0 ≤ 40 := by rw [← hn0, ← hgs0, glQ_len]; exact hlc
  have hgs0H := Lib.hid hgs0
  have hn0H := Lib.hid hn0
  have hlb := hm.bx.lt
  have hrd : RdSl 2 RGl w A1 n0 gs0 := by
    obtain ⟨A', c', e, h1⟩ := rdGl_of_flat hm.gl
    injection e with e1 e2 e3
    rw [e1, ← hn0]; exact h1
  have hrdH := Lib.hid hrd
  have hmH := Lib.hid hm
  have hPH := Lib.hid hP
  have hP1 : P.size = 1 := by rw [← hP]; unfold prfQ; split <;> rfl
  have htrH := Lib.hid htr
  have hcsH := Lib.hid hcs
  have hnoH := Lib.hid hno
  clear hm hP htr hcs hno hgs0 hn0 hrd
  go_enter Tryz.func29, Tryz.ntmps29
  go_wp2_with fail
  go_loopg [7] n0 (fun g i wr => ∃ (k : Nat), k + g = n0 ∧ i = .int .i64 (k : Int) ∧ Hid (Sk wr w.heap.size (gs0.take k, [])) ∧ Hid (Below w.heap.size w wr))
  case atStart => exact ⟨0, by omega, rfl, Lib.hid (Sk.made w), Lib.hid (bl_al (bl_refl _) _)⟩
  case round =>
    obtain ⟨k, hk, rfl, hx, hbw⟩ := hrel
    have hmw := hmH.out.below hbw.out
    have y0 := hmw.bx.cell 0 _ rfl
    have ly := hmw.bx.lt
    simp only at y0
    rw [hn0H.out] at y0
    by_cases hkn : k < n0
    · obtain ⟨A3, c3, B4, c4, us4, hxa⟩ := hx.out
      have hlk : (gs0.take k).length = k := by rw [List.length_take, hn0H.out]; omega
      have z0 := hxa.bx.cell 0 _ rfl
      have zf := hxa.bx.froz 0
      have lz := hxa.bx.lt
      simp only at z0
      rw [hlk] at z0
      have hxg := hxa.gl
      simp only at hxg
      rw [hlk] at hxg
      have hxaH := Lib.hid hxa
      have hlkH := Lib.hid hlk
      have hxgH := Lib.hid hxg
      obtain ⟨bb, oo, rfl, hbl, hc⟩ := (hrdH.out.below RGl.stable hbw.out).ptr (by omega)
      obtain ⟨e, he⟩ := hrdH.out.get hkn
      obtain ⟨g0, g1⟩ := hc k e he
      have heH := Lib.hid he
      obtain ⟨en, es⟩ := e
      simp only at g0 g1
      clear hc he hmw hxa hlk hxg
      go_wp2_with fail
      refine wp_region_ord [(0, .p), (1, .q), (2, .q), (3, .q), (4, .q), (5, .q), (6, .q), (7, .q), (8, .q), (9, .q), (10, .q), (11, .q), (12, .q), (13, .q), (14, .g), (15, .b), (16, .q), (17, .q), (18, .q), (19, .b)] (by kernel_rfl) (by kernel_rfl) ?_
      simp only [pick, List.filterMap_cons, List.filterMap_nil, List.getElem?_toArray, List.getElem?_cons_zero, List.getElem?_cons_succ, Option.map_some]
      repeat (first | ((with_reducible refine wpD_p (fun K hK => ?_)); go_simp; refine hK _ ?_; clear hK K) | ((with_reducible refine wpD_q (fun K hK => ?_)); go_simp; (first | refine hK _ ?_ | (go_bits; refine hK _ ?_) | (go_bits; go_simp; refine hK _ ?_)); clear hK K))
      with_reducible refine wpD_g (fun K hK => ?_)
      go_simp
      refine ⟨Grew.of_alloc _, hK _ _ ?_⟩
      clear hK K
      repeat (first | ((with_reducible refine wpD_p (fun K hK => ?_)); go_simp; refine hK _ ?_; clear hK K) | ((with_reducible refine wpD_q (fun K hK => ?_)); go_simp; (first | refine hK _ ?_ | (go_bits; refine hK _ ?_) | (go_bits; go_simp; refine hK _ ?_)); clear hK K))
      have hat9 : True := trivial
      have hxgB := ownsRow_below hxgH.out (show Below wr.heap.size wr (wr.alloc (Obj.cells #[.string en, .int .i64 es] 69)).drew from bl_dr (bl_al (bl_refl _) _))
      refine wpD_append_atN rfl _ _ 22 rfl (w.heap.size + 1) 69 iG (.agg #[.string ByteArray.empty, .int .i64 0]) 2 24 Tryz.underlying22 hiG hG0 hG1 hG2 rfl (by decide) (.slice A3 k c3) k (flatC encGl (gs0.take k)) (by go_simp) hxgB ⟨wr.heap.size, 0, none⟩ 1 1 [.string en, .int .i64 es] (by go_simp) rfl (cell_two_at wr _ _ _ rfl) (fun x hx => by simp at hx; rcases hx with rfl | rfl <;> rfl) (by unfold maxLen; omega) (by omega) (by simp; omega) ?_
      intro v5 w5 hown5 hgrow5 _
      obtain ⟨A5, c5, rfl⟩ := ownsRow_form hown5
      have hjb : Below wr.heap.size wr (wr.alloc (Obj.cells #[.string en, .int .i64 es] 69)).drew := bl_dr (bl_al (bl_refl _) _)
      have hnb : ∀ g, (Value.slice A3 k c3).ownBlock = some g → w.heap.size + 1 ≤ g := fun g e => (hxgB.lt g e).1
      have hxs := (hxaH.out.below hjb).pushG hlkH.out hown5 hgrow5
      have hbw5 : Below w.heap.size w w5 := (hbw.out.trans (hjb.mono hbw.out.size)).grown hgrow5 (by have := hbw.out.size; simp; omega) (fun g e => by have := hnb g e; omega)
      have hxb5 := ((hxaH.out.below hjb).bx.grown hgrow5 (fun e => by have := hnb _ e; omega))
      have z0 := hxb5.cell 0 _ rfl
      have zf := hxb5.froz 0
      have lz := hxb5.lt
      have hxsH : Hid (Sk (w5.setCell ⟨w.heap.size, 0, none⟩ (.slice A5 (k + 1) c5)) w.heap.size (gs0.take (k + 1), [])) := Lib.hid (by
        obtain ⟨hi, hge⟩ := List.getElem?_eq_some_iff.1 heH.out
        rw [List.take_succ_eq_append_getElem hi, hge]
        exact hxs)
      have hbwH := Lib.hid hbw5
      clear hown5 hgrow5 hjb hnb hxs hbw5 hxb5 hxgB hat9 hx hbw y0 ly g0 g1
      repeat (first | ((with_reducible refine wpD_p (fun K hK => ?_)); go_simp; refine hK _ ?_; clear hK K) | ((with_reducible refine wpD_q (fun K hK => ?_)); go_simp; (first | refine hK _ ?_ | (go_bits; refine hK _ ?_) | (go_bits; go_simp; refine hK _ ?_)); clear hK K))
      with_reducible refine wpD_b (fun K hK => ?_)
      go_simp
      refine hK _ _ ?_
      clear hK K
      with_reducible refine wpD_nil ?_
      go_wp2
      go_roundg (n0 - (k + 1))
      case measure => omega
      case rel => exact ⟨k + 1, by omega, by go_num, hxsH, Lib.hid (hbwH.out.setCell (p := ⟨w.heap.size, 0, none⟩) (Nat.le_refl _) _)⟩
    · obtain rfl : k = n0 := by omega
      have hx1 : Hid (Sk wr w.heap.size (glQ (cs0 ++ cC p 0), [])) := Lib.hid (by
        have h := hx.out
        rw [List.take_of_length_le (by rw [hn0H.out]; exact Nat.le_refl _), ← hgs0H.out] at h
        simp only [cC, List.range_zero, List.map_nil, List.append_nil]
        exact h)
      have hal : Below wr.heap.size wr (wr.alloc (Obj.cells #[.string ⟨#[118, 48]⟩, .string ⟨#[118, 49]⟩, .string ⟨#[99, 48]⟩, .string ⟨#[99, 49]⟩, .string ⟨#[117, 112]⟩, .string ⟨#[103, 111]⟩, .string ⟨#[101, 100, 103, 101]⟩] 9)) := bl_al (bl_refl _) _
      have hx2 := Lib.hid (hx1.out.below hal)
      have hbw2 := Lib.hid (hbw.out.trans (hal.mono hbw.out.size))
      have bN2 := Lib.hid (BxT.made wr [.string ⟨#[118, 48]⟩, .string ⟨#[118, 49]⟩, .string ⟨#[99, 48]⟩, .string ⟨#[99, 49]⟩, .string ⟨#[117, 112]⟩, .string ⟨#[103, 111]⟩, .string ⟨#[101, 100, 103, 101]⟩] 9)
      obtain ⟨N, hN⟩ : ∃ N, wr.heap.size = N := ⟨_, rfl⟩
      rw [hN] at bN2
      clear hx hx1 hal hbw
      go_wp2_with fail
      clear y0 ly hmw
      go_loopg [9] 7 (fun g i wr => ∃ (k : Nat), k + g = 7 ∧ i = .int .i64 (k : Int) ∧ Hid (Sk wr w.heap.size (glQ (cs0 ++ cC p k), [])) ∧ Hid (Below w.heap.size w wr) ∧ Hid (BxT wr N 9 [.string ⟨#[118, 48]⟩, .string ⟨#[118, 49]⟩, .string ⟨#[99, 48]⟩, .string ⟨#[99, 49]⟩, .string ⟨#[117, 112]⟩, .string ⟨#[103, 111]⟩, .string ⟨#[101, 100, 103, 101]⟩]))
      case atStart => exact ⟨0, by omega, rfl, hx2, hbw2, bN2⟩
      case round =>
        clear hx2 hbw2 bN2 hN
        obtain ⟨j, hj, rfl, hx, hbw, bN⟩ := hrel
        have lN := bN.out.1.lt
        by_cases hj7 : j < 7
        · have cN := bN.out.1.cell j _ (seven_get hj7)
          obtain ⟨wd, hwd⟩ : ∃ wd, wdG j = wd := ⟨_, rfl⟩
          rw [hwd] at cN
          have hwz : wd.size ≤ 4 := by rw [← hwd]; exact wdG_size j
          obtain ⟨nm, hnm⟩ : ∃ s, P ++ wd = s := ⟨_, rfl⟩
          have hcat := catT hnm (by omega)
          have hgnH := Lib.hid (show gqn (0, p, j) = nm by rw [← hnm, ← hwd, ← hPH.out]; rfl)
          clear hwd hnm
          go_wp2_with fail
          refine (sglue_q (c := (0, p, j)) (s := 1) hx.out hgnH.out (by simp [gsq]; omega) (fun d hd => by
            rcases List.mem_append.1 hd with h | h
            · exact hcsH.out d h
            · rw [mem_cC] at h; exact in_gV (by omega)) (in_gV (by simp <;> omega)) (fun hc => by
            rcases List.mem_append.1 hc with h | h
            · exact hnoH.out _ h ⟨rfl, rfl⟩
            · rw [mem_cC] at h; simp only at h; omega) (by rw [List.length_append, cC_len]; omega)).mono ?_
          rintro e w6 ⟨⟨kk, rfl⟩, hx6, hF6, hB6⟩
          have hx7 := Lib.hid hx6
          have bw7 := Lib.hid (hbw.out.trans hB6)
          have bN7 := Lib.hid (bN.out.far hF6 (by decide) hB6)
          clear hx6 hF6 hB6 hx hbw bN cN
          go_wp2
          go_roundg (7 - (j + 1))
          case measure => omega
          case rel => exact ⟨j + 1, by omega, by go_num, (by rw [cC_succ, ← List.append_assoc]; exact hx7), bw7, bN7⟩
        · obtain rfl : j = 7 := by omega
          clear bN lN
          obtain ⟨n7, hn7⟩ : ∃ s, P ++ (⟨#[116, 117, 114, 110]⟩ : ByteArray) = s := ⟨_, rfl⟩
          obtain ⟨n8, hn8⟩ : ∃ s, P ++ (⟨#[110, 101, 120, 116]⟩ : ByteArray) = s := ⟨_, rfl⟩
          have q7 := catT hn7 (by rw [hP1]; decide)
          have q8 := catT hn8 (by rw [hP1]; decide)
          have k7 := Lib.hid (show gqn (0, p, 7) = n7 by rw [← hn7, ← hPH.out]; rfl)
          have k8 := Lib.hid (show gqn (0, p, 8) = n8 by rw [← hn8, ← hPH.out]; rfl)
          clear hn7 hn8
          go_wp2_with fail
          refine (sglue_q (c := (0, p, 7)) (s := 2) hx.out k7.out (by simp [gsq]) (zz_V hcsH.out hp (by omega)) (in_gV (by simp <;> omega)) (zz_no hnoH.out) (by rw [List.length_append, cC_len]; omega)).mono ?_
          rintro e w1 ⟨⟨kk, rfl⟩, hx6, hF6, hB6⟩
          replace hx : Hid (Sk w1 w.heap.size (glQ (cs0 ++ cC p (7 + 1)), [])) := Lib.hid (by rw [cC_succ, ← List.append_assoc]; exact hx6)
          replace hbw := Lib.hid (hbw.out.trans hB6)
          clear hx6 hF6 hB6
          go_wp2_with fail
          refine (sglue_q (c := (0, p, 8)) (s := 2) hx.out k8.out (by simp [gsq]) (zz_V hcsH.out hp (by omega)) (in_gV (by simp <;> omega)) (zz_no hnoH.out) (by rw [List.length_append, cC_len]; omega)).mono ?_
          rintro e w2 ⟨⟨kk, rfl⟩, hx6, hF6, hB6⟩
          replace hx : Hid (Sk w2 w.heap.size (glQ (cs0 ++ cC p (8 + 1)), [])) := Lib.hid (by rw [cC_succ, ← List.append_assoc]; exact hx6)
          replace hbw := Lib.hid (hbw.out.trans hB6)
          clear hx6 hF6 hB6
          obtain ⟨gs, hgs⟩ : ∃ gs, glQ (cs0 ++ cC p 9) = gs := ⟨_, rfl⟩
          have hgsH := Lib.hid hgs
          have hgl : gs.length ≤ 1000 := by rw [← hgs, glQ_len, List.length_append, cC_len]; omega
          have hnoneH := Lib.hid (show numG gs ⟨#[]⟩ = 0 by rw [← hgs]; exact (num_dashQ (zz_V hcsH.out hp (Nat.le_refl 9))).2)
          have hx2 : Hid (Sk w2 w.heap.size (gs, cntU gs p (2 * 0))) := Lib.hid (by have h := hx.out; rw [hgs] at h; exact h)
          have hbw2 := hbw
          clear hgs hx hbw
          go_wp2_with fail
          go_loopg [10] 2 (fun g i wr => ∃ (d : Nat), d + g = 2 ∧ i = .int .i64 (d : Int) ∧ Hid (Sk wr w.heap.size (gs, cntU gs p (2 * d))) ∧ Hid (Below w.heap.size w wr))
          case atStart => exact ⟨0, by omega, rfl, hx2, hbw2⟩
          case round =>
            clear hx2 hbw2
            obtain ⟨d, hd, rfl, hx, hbw⟩ := hrel
            by_cases hd2 : d < 2
            · have hdI : (d : Int) < 2 := by omega
              go_wp2_with fail
              go_loopg [11] 2 (fun g i wr => ∃ (c : Nat), c + g = 2 ∧ i = .int .i64 (c : Int) ∧ Hid (Sk wr w.heap.size (gs, cntU gs p (2 * d + c))) ∧ Hid (Below w.heap.size w wr))
              case atStart => exact ⟨0, by omega, rfl, hx, hbw⟩
              case round =>
                clear hx hbw
                obtain ⟨c, hc, rfl, hx, hbw⟩ := hrel
                by_cases hc2 : c < 2
                · have hcI : (c : Int) < 2 := by omega
                  obtain ⟨td, htd⟩ : ∃ s, decN d = s := ⟨_, rfl⟩
                  obtain ⟨tc, htc⟩ : ∃ s, decN c = s := ⟨_, rfl⟩
                  obtain ⟨sm, hsm⟩ : ∃ s, d + c = s := ⟨_, rfl⟩
                  obtain ⟨m2, hm2⟩ : ∃ s, sm % 2 = s := ⟨_, rfl⟩
                  obtain ⟨dv, hdv⟩ : ∃ s, sm / 2 = s := ⟨_, rfl⟩
                  obtain ⟨t2, ht2⟩ : ∃ s, decN m2 = s := ⟨_, rfl⟩
                  obtain ⟨t3, ht3⟩ : ∃ s, decN dv = s := ⟨_, rfl⟩
                  have hm2b : m2 < 2 := by omega
                  have hdvb : dv < 2 := by omega
                  have ztd : td.size ≤ 3 := by rw [← htd]; exact decN_size (by omega)
                  have ztc : tc.size ≤ 3 := by rw [← htc]; exact decN_size (by omega)
                  have zt2 : t2.size ≤ 3 := by rw [← ht2]; exact decN_size (by omega)
                  have zt3 : t3.size ≤ 3 := by rw [← ht3]; exact decN_size (by omega)
                  have zP : P.size ≤ 1 := by omega
                  have hws : IntKind.i64.wrap ((d : Int) + (c : Int)) = (sm : Int) := by rw [wrapT (by omega) (by omega)]; omega
                  have hmod : Int.tmod (sm : Int) 2 = (m2 : Int) := by rw [← hm2]; rfl
                  have hdiv : Int.tdiv (sm : Int) 2 = (dv : Int) := by rw [← hdv]; rfl
                  have hwm : IntKind.i64.wrap (m2 : Int) = (m2 : Int) := wrapT (by omega) (by omega)
                  have hwd : IntKind.i64.wrap (dv : Int) = (dv : Int) := wrapT (by omega) (by omega)
                  obtain ⟨a1, ha1⟩ : ∃ s, P ++ (⟨#[100]⟩ : ByteArray) = s := ⟨_, rfl⟩
                  have za1 := cat_szQ ha1 zP (show (⟨#[100]⟩ : ByteArray).size ≤ 1 by decide)
                  have qa1 := catT ha1 (by have := zP; have := (show (⟨#[100]⟩ : ByteArray).size ≤ 1 by decide); omega)
                  obtain ⟨a2, ha2⟩ : ∃ s, a1 ++ (td : ByteArray) = s := ⟨_, rfl⟩
                  have za2 := cat_szQ ha2 za1 ztd
                  have qa2 := catT ha2 (by have := za1; have := ztd; omega)
                  obtain ⟨a3, ha3⟩ : ∃ s, a2 ++ (⟨#[99]⟩ : ByteArray) = s := ⟨_, rfl⟩
                  have za3 := cat_szQ ha3 za2 (show (⟨#[99]⟩ : ByteArray).size ≤ 1 by decide)
                  have qa3 := catT ha3 (by have := za2; have := (show (⟨#[99]⟩ : ByteArray).size ≤ 1 by decide); omega)
                  obtain ⟨a4, ha4⟩ : ∃ s, a3 ++ (tc : ByteArray) = s := ⟨_, rfl⟩
                  have za4 := cat_szQ ha4 za3 ztc
                  have qa4 := catT ha4 (by have := za3; have := ztc; omega)
                  obtain ⟨v1, hv1⟩ : ∃ s, P ++ (⟨#[118]⟩ : ByteArray) = s := ⟨_, rfl⟩
                  have zv1 := cat_szQ hv1 zP (show (⟨#[118]⟩ : ByteArray).size ≤ 1 by decide)
                  have qv1 := catT hv1 (by have := zP; have := (show (⟨#[118]⟩ : ByteArray).size ≤ 1 by decide); omega)
                  obtain ⟨v2, hv2⟩ : ∃ s, v1 ++ (t2 : ByteArray) = s := ⟨_, rfl⟩
                  have zv2 := cat_szQ hv2 zv1 zt2
                  have qv2 := catT hv2 (by have := zv1; have := zt2; omega)
                  obtain ⟨v3, hv3⟩ : ∃ s, v1 ++ (td : ByteArray) = s := ⟨_, rfl⟩
                  have zv3 := cat_szQ hv3 zv1 ztd
                  have qv3 := catT hv3 (by have := zv1; have := ztd; omega)
                  obtain ⟨e1, he1⟩ : ∃ s, P ++ (⟨#[99]⟩ : ByteArray) = s := ⟨_, rfl⟩
                  have ze1 := cat_szQ he1 zP (show (⟨#[99]⟩ : ByteArray).size ≤ 1 by decide)
                  have qe1 := catT he1 (by have := zP; have := (show (⟨#[99]⟩ : ByteArray).size ≤ 1 by decide); omega)
                  obtain ⟨e2, he2⟩ : ∃ s, e1 ++ (tc : ByteArray) = s := ⟨_, rfl⟩
                  have ze2 := cat_szQ he2 ze1 ztc
                  have qe2 := catT he2 (by have := ze1; have := ztc; omega)
                  obtain ⟨e3, he3⟩ : ∃ s, e1 ++ (t3 : ByteArray) = s := ⟨_, rfl⟩
                  have ze3 := cat_szQ he3 ze1 zt3
                  have qe3 := catT he3 (by have := ze1; have := zt3; omega)
                  have kT := Lib.hid (show tqn (0, p, 2 * d + c) = a4 by rw [← nmT hp hd2 hc2, hPH.out, htd, htc, ha1, ha2, ha3, ha4])
                  have kN := Lib.hid (show gqn (0, p, (d + c) % 2) = v2 by rw [hsm, hm2, ← nmV hp hm2b, hPH.out, ht2, hv1, hv2])
                  have kE := Lib.hid (show gqn (0, p, 2 + c) = e2 by rw [← nmC hp hc2, hPH.out, htc, he1, he2])
                  have kS := Lib.hid (show gqn (0, p, d) = v3 by rw [← nmV hp hd2, hPH.out, htd, hv1, hv3])
                  have kW := Lib.hid (show gqn (0, p, 2 + (d + c) / 2) = e3 by rw [hsm, hdv, ← nmC hp hdvb, hPH.out, ht3, he1, he3])
                  have htdH := Lib.hid htd
                  have htcH := Lib.hid htc
                  have ht2H := Lib.hid ht2
                  have ht3H := Lib.hid ht3
                  have hdc : 2 * d + c < 11 := by omega
                  have jb : Below wr.heap.size wr wr := bl_refl wr
                  clear htd htc ht2 ht3 hm2 hdv hsm ha1 ha2 ha3 ha4 hv1 hv2 hv3 he1 he2 he3 za1 za2 za3 za4 zv1 zv2 zv3 ze1 ze2 ze3
                  go_wp2_with fail
                  refine (lDecimal_n (u := d) _ (by omega) htdH.out).mono ?_
                  rintro e w1 ⟨rfl, hb⟩
                  replace jb := jb.trans (hb.mono jb.size)
                  clear hb
                  go_wp2_with fail
                  refine (lDecimal_n (u := c) _ (by omega) htcH.out).mono ?_
                  rintro e w2 ⟨rfl, hb⟩
                  replace jb := jb.trans (hb.mono jb.size)
                  clear hb
                  go_wp2_with fail
                  refine (lDecimal_n (u := m2) _ (by omega) ht2H.out).mono ?_
                  rintro e w3 ⟨rfl, hb⟩
                  replace jb := jb.trans (hb.mono jb.size)
                  clear hb
                  go_wp2_with fail
                  refine (lDecimal_n (u := c) _ (by omega) htcH.out).mono ?_
                  rintro e w4 ⟨rfl, hb⟩
                  replace jb := jb.trans (hb.mono jb.size)
                  clear hb
                  go_wp2_with fail
                  refine (lDecimal_n (u := d) _ (by omega) htdH.out).mono ?_
                  rintro e w5 ⟨rfl, hb⟩
                  replace jb := jb.trans (hb.mono jb.size)
                  clear hb
                  go_wp2_with fail
                  refine (lDecimal_n (u := dv) _ (by omega) ht3H.out).mono ?_
                  rintro e w7 ⟨rfl, hb⟩
                  replace jb := jb.trans (hb.mono jb.size)
                  clear hb
                  go_wp2_with fail
                  refine (stileX_q (X := fun _ => False) (gs := gs) (ts := cntU gs p (2 * d + c)) (c := (0, p, 2 * d + c)) (L := 2 * d + c) (hx.out.below jb) (fun g e => e.elim) kT.out (sdQ_some kN.out) (sdQ_some kE.out) (sdQ_some kS.out) (sdQ_some kW.out) (fresh_U hp hdc kT.out) hgl (by rw [cntU_len]) (by omega)).mono ?_
                  rintro e w6 ⟨rfl, hx6, hF6, hB6⟩
                  have hx7 := Lib.hid hx6
                  have bw7 := Lib.hid ((hbw.out.trans (jb.mono hbw.out.size)).trans hB6)
                  clear hx6 hF6 hB6 jb hx hbw
                  go_wp2
                  go_roundg (2 - (c + 1))
                  case measure => omega
                  case rel => exact ⟨c + 1, by omega, by go_num, Lib.hid (by
                    have h := hx7.out
                    rw [← cntS_dc hd2 hc2, ← cntU_succ] at h
                    exact h), bw7⟩
                · obtain rfl : c = 2 := by omega
                  go_wp2
                  go_roundg (2 - (d + 1))
                  case measure => omega
                  case rel => exact ⟨d + 1, by omega, by go_num, hx, hbw⟩
            · obtain rfl : d = 2 := by omega
              obtain ⟨gc0, hgc0⟩ : ∃ s, P ++ (⟨#[99, 48]⟩ : ByteArray) = s := ⟨_, rfl⟩
              have qgc0 := catT hgc0 (by rw [hP1]; decide)
              have kgc0 := Lib.hid (show gqn (0, p, 2) = gc0 by rw [← hgc0, ← hPH.out]; rfl)
              clear hgc0
              obtain ⟨gc1, hgc1⟩ : ∃ s, P ++ (⟨#[99, 49]⟩ : ByteArray) = s := ⟨_, rfl⟩
              have qgc1 := catT hgc1 (by rw [hP1]; decide)
              have kgc1 := Lib.hid (show gqn (0, p, 3) = gc1 by rw [← hgc1, ← hPH.out]; rfl)
              clear hgc1
              obtain ⟨gup, hgup⟩ : ∃ s, P ++ (⟨#[117, 112]⟩ : ByteArray) = s := ⟨_, rfl⟩
              have qgup := catT hgup (by rw [hP1]; decide)
              have kgup := Lib.hid (show gqn (0, p, 4) = gup by rw [← hgup, ← hPH.out]; rfl)
              clear hgup
              obtain ⟨ggo, hggo⟩ : ∃ s, P ++ (⟨#[103, 111]⟩ : ByteArray) = s := ⟨_, rfl⟩
              have qggo := catT hggo (by rw [hP1]; decide)
              have kggo := Lib.hid (show gqn (0, p, 5) = ggo by rw [← hggo, ← hPH.out]; rfl)
              clear hggo
              obtain ⟨ged, hged⟩ : ∃ s, P ++ (⟨#[101, 100, 103, 101]⟩ : ByteArray) = s := ⟨_, rfl⟩
              have qged := catT hged (by rw [hP1]; decide)
              have kged := Lib.hid (show gqn (0, p, 6) = ged by rw [← hged, ← hPH.out]; rfl)
              clear hged
              obtain ⟨tst, htst⟩ : ∃ s, P ++ (⟨#[115, 116, 97, 121]⟩ : ByteArray) = s := ⟨_, rfl⟩
              have qtst := catT htst (by rw [hP1]; decide)
              have ktst := Lib.hid (show tqn (0, p, 4) = tst by rw [← htst, ← hPH.out]; rfl)
              clear htst
              obtain ⟨tso, htso⟩ : ∃ s, P ++ (⟨#[115, 116, 111, 112]⟩ : ByteArray) = s := ⟨_, rfl⟩
              have qtso := catT htso (by rw [hP1]; decide)
              have ktso := Lib.hid (show tqn (0, p, 5) = tso by rw [← htso, ← hPH.out]; rfl)
              clear htso
              obtain ⟨ttu, httu⟩ : ∃ s, P ++ (⟨#[116, 117, 114, 110, 101, 100]⟩ : ByteArray) = s := ⟨_, rfl⟩
              have qttu := catT httu (by rw [hP1]; decide)
              have kttu := Lib.hid (show tqn (0, p, 6) = ttu by rw [← httu, ← hPH.out]; rfl)
              clear httu
              obtain ⟨ten, hten⟩ : ∃ s, P ++ (⟨#[101, 110, 100]⟩ : ByteArray) = s := ⟨_, rfl⟩
              have qten := catT hten (by rw [hP1]; decide)
              have kten := Lib.hid (show tqn (0, p, 9) = ten by rw [← hten, ← hPH.out]; rfl)
              clear hten
              obtain ⟨tad, htad⟩ : ∃ s, P ++ (⟨#[97, 100, 100]⟩ : ByteArray) = s := ⟨_, rfl⟩
              have qtad := catT htad (by rw [hP1]; decide)
              have ktad := Lib.hid (show tqn (0, p, 10) = tad by rw [← htad, ← hPH.out]; rfl)
              clear htad
              have kfill := Lib.hid (show gqn (1, 0, 0) = ⟨#[102, 105, 108, 108]⟩ from rfl)
              have jb : Below wr.heap.size wr wr := bl_refl wr
              go_wp2_with fail
              refine (stileX_q (X := fun _ => False) (gs := gs) (ts := cntU gs p 4) (c := (0, p, 4)) (L := 4) (hx.out.below jb) (fun g e => e.elim) ktst.out (sdQ_some k7.out) (sdQ_some kgc0.out) (sdQ_some kgup.out) (sdQ_none hnoneH.out) (fresh_U hp (by decide) ktst.out) hgl (by rw [cntU_len]) (by omega)).mono ?_
              rintro e w6 ⟨rfl, hx6, hF6, hB6⟩
              have hx7 := Lib.hid hx6
              have bw7 := Lib.hid ((hbw.out.trans (jb.mono hbw.out.size)).trans hB6)
              clear hx6 hF6 hB6 jb hx hbw
              have hx : Hid (Sk w6 w.heap.size (gs, cntU gs p (4 + 1))) := Lib.hid (by have h := hx7.out; rw [cntU_succ]; exact h)
              have hbw := bw7
              have jb : Below w6.heap.size w6 w6 := bl_refl w6
              clear hx7 bw7
              go_wp2_with fail
              refine (stileX_q (X := fun _ => False) (gs := gs) (ts := cntU gs p 5) (c := (0, p, 5)) (L := 5) (hx.out.below jb) (fun g e => e.elim) ktso.out (sdQ_none hnoneH.out) (sdQ_some kgc1.out) (sdQ_some kgup.out) (sdQ_none hnoneH.out) (fresh_U hp (by decide) ktso.out) hgl (by rw [cntU_len]) (by omega)).mono ?_
              rintro e w6 ⟨rfl, hx6, hF6, hB6⟩
              have hx7 := Lib.hid hx6
              have bw7 := Lib.hid ((hbw.out.trans (jb.mono hbw.out.size)).trans hB6)
              clear hx6 hF6 hB6 jb hx hbw
              have hx : Hid (Sk w6 w.heap.size (gs, cntU gs p (5 + 1))) := Lib.hid (by have h := hx7.out; rw [cntU_succ]; exact h)
              have hbw := bw7
              have jb : Below w6.heap.size w6 w6 := bl_refl w6
              clear hx7 bw7
              go_wp2_with fail
              refine (stileX_q (X := fun _ => False) (gs := gs) (ts := cntU gs p 6) (c := (0, p, 6)) (L := 6) (hx.out.below jb) (fun g e => e.elim) kttu.out (sdQ_some kgup.out) (sdQ_some kggo.out) (sdQ_some k7.out) (sdQ_none hnoneH.out) (fresh_U hp (by decide) kttu.out) hgl (by rw [cntU_len]) (by omega)).mono ?_
              rintro e w6 ⟨rfl, hx6, hF6, hB6⟩
              have hx7 := Lib.hid hx6
              have bw7 := Lib.hid ((hbw.out.trans (jb.mono hbw.out.size)).trans hB6)
              clear hx6 hF6 hB6 jb hx hbw
              have hx : Hid (Sk w6 w.heap.size (gs, cntU gs p (6 + 1))) := Lib.hid (by have h := hx7.out; rw [cntU_succ]; exact h)
              have hbw := bw7
              have jb : Below w6.heap.size w6 w6 := bl_refl w6
              clear hx7 bw7
              clear jb
              go_wp2_with fail
              go_loopg [13] 2 (fun g i wr => ∃ (d : Nat), d + g = 2 ∧ i = .int .i64 (d : Int) ∧ Hid (Sk wr w.heap.size (gs, cntU gs p (7 + d))) ∧ Hid (Below w.heap.size w wr))
              case atStart => exact ⟨0, by omega, rfl, hx, hbw⟩
              case round =>
                clear hx hbw
                obtain ⟨d, hd, rfl, hx, hbw⟩ := hrel
                by_cases hd2 : d < 2
                · have hdI : (d : Int) < 2 := by omega
                  obtain ⟨td, htd⟩ : ∃ s, decN d = s := ⟨_, rfl⟩
                  have ztd : td.size ≤ 3 := by rw [← htd]; exact decN_size (by omega)
                  have zP : P.size ≤ 1 := by omega
                  obtain ⟨a1, ha1⟩ : ∃ s, P ++ (⟨#[99, 111, 112, 121]⟩ : ByteArray) = s := ⟨_, rfl⟩
                  have za1 := cat_szQ ha1 zP (show (⟨#[99, 111, 112, 121]⟩ : ByteArray).size ≤ 4 by decide)
                  have qa1 := catT ha1 (by have := zP; have := (show (⟨#[99, 111, 112, 121]⟩ : ByteArray).size ≤ 4 by decide); omega)
                  obtain ⟨a2, ha2⟩ : ∃ s, a1 ++ (td : ByteArray) = s := ⟨_, rfl⟩
                  have za2 := cat_szQ ha2 za1 ztd
                  have qa2 := catT ha2 (by have := za1; have := ztd; omega)
                  obtain ⟨v1, hv1⟩ : ∃ s, P ++ (⟨#[118]⟩ : ByteArray) = s := ⟨_, rfl⟩
                  have zv1 := cat_szQ hv1 zP (show (⟨#[118]⟩ : ByteArray).size ≤ 1 by decide)
                  have qv1 := catT hv1 (by have := zP; have := (show (⟨#[118]⟩ : ByteArray).size ≤ 1 by decide); omega)
                  obtain ⟨v2, hv2⟩ : ∃ s, v1 ++ (td : ByteArray) = s := ⟨_, rfl⟩
                  have zv2 := cat_szQ hv2 zv1 ztd
                  have qv2 := catT hv2 (by have := zv1; have := ztd; omega)
                  have kT := Lib.hid (show tqn (0, p, 7 + d) = a2 by rw [← nmCopy hp hd2, hPH.out, htd, ha1, ha2])
                  have kN := Lib.hid (show gqn (0, p, d) = v2 by rw [← nmV hp hd2, hPH.out, htd, hv1, hv2])
                  have htdH := Lib.hid htd
                  have hdc : 7 + d < 11 := by omega
                  have jb : Below wr.heap.size wr wr := bl_refl wr
                  clear htd ha1 ha2 hv1 hv2 za1 za2 zv1 zv2
                  go_wp2_with fail
                  refine (lDecimal_n (u := d) _ (by omega) htdH.out).mono ?_
                  rintro e w1 ⟨rfl, hb⟩
                  replace jb := jb.trans (hb.mono jb.size)
                  clear hb
                  go_wp2_with fail
                  refine (lDecimal_n (u := d) _ (by omega) htdH.out).mono ?_
                  rintro e w2 ⟨rfl, hb⟩
                  replace jb := jb.trans (hb.mono jb.size)
                  clear hb
                  go_wp2_with fail
                  refine (lDecimal_n (u := d) _ (by omega) htdH.out).mono ?_
                  rintro e w3 ⟨rfl, hb⟩
                  replace jb := jb.trans (hb.mono jb.size)
                  clear hb
                  go_wp2_with fail
                  refine (stileX_q (X := fun _ => False) (gs := gs) (ts := cntU gs p (7 + d)) (c := (0, p, 7 + d)) (L := 7 + d) (hx.out.below jb) (fun g e => e.elim) kT.out (sdQ_some kN.out) (sdQ_some kggo.out) (sdQ_some kN.out) (sdQ_some kggo.out) (fresh_U hp hdc kT.out) hgl (by rw [cntU_len]) (by omega)).mono ?_
                  rintro e w6 ⟨rfl, hx6, hF6, hB6⟩
                  have hx7 := Lib.hid hx6
                  have bw7 := Lib.hid ((hbw.out.trans (jb.mono hbw.out.size)).trans hB6)
                  clear hx6 hF6 hB6 jb hx hbw
                  go_wp2
                  go_roundg (2 - (d + 1))
                  case measure => omega
                  case rel => exact ⟨d + 1, by omega, by go_num, Lib.hid (by
                    have h := hx7.out
                    rw [← cntS_copy hd2, ← cntU_succ] at h
                    exact h), bw7⟩
                · obtain rfl : d = 2 := by omega
                  have jb : Below wr.heap.size wr wr := bl_refl wr
                  go_wp2_with fail
                  refine (stileX_q (X := fun _ => False) (gs := gs) (ts := cntU gs p 9) (c := (0, p, 9)) (L := 9) (hx.out.below jb) (fun g e => e.elim) kten.out (sdQ_some k8.out) (sdQ_some kfill.out) (sdQ_some kged.out) (sdQ_some kggo.out) (fresh_U hp (by decide) kten.out) hgl (by rw [cntU_len]) (by omega)).mono ?_
                  rintro e w6 ⟨rfl, hx6, hF6, hB6⟩
                  have hx7 := Lib.hid hx6
                  have bw7 := Lib.hid ((hbw.out.trans (jb.mono hbw.out.size)).trans hB6)
                  clear hx6 hF6 hB6 jb hx hbw
                  have hx : Hid (Sk w6 w.heap.size (gs, cntU gs p (9 + 1))) := Lib.hid (by have h := hx7.out; rw [cntU_succ]; exact h)
                  have hbw := bw7
                  have jb : Below w6.heap.size w6 w6 := bl_refl w6
                  clear hx7 bw7
                  go_wp2_with fail
                  refine (stileX_q (X := fun _ => False) (gs := gs) (ts := cntU gs p 10) (c := (0, p, 10)) (L := 10) (hx.out.below jb) (fun g e => e.elim) ktad.out (sdQ_some kged.out) (sdQ_some kfill.out) (sdQ_some k8.out) (sdQ_some kgc1.out) (fresh_U hp (by decide) ktad.out) hgl (by rw [cntU_len]) (by omega)).mono ?_
                  rintro e w6 ⟨rfl, hx6, hF6, hB6⟩
                  have hx7 := Lib.hid hx6
                  have bw7 := Lib.hid ((hbw.out.trans (jb.mono hbw.out.size)).trans hB6)
                  clear hx6 hF6 hB6 jb hx hbw
                  have hx : Hid (Sk w6 w.heap.size (gs, cntU gs p (10 + 1))) := Lib.hid (by have h := hx7.out; rw [cntU_succ]; exact h)
                  have hbw := bw7
                  have jb : Below w6.heap.size w6 w6 := bl_refl w6
                  clear hx7 bw7
                  clear jb q7 q8 qgc0 qgc1 qgup qggo qged qtst qtso qttu qten qtad
                  obtain ⟨wz, hwz⟩ : ∃ x : World, x = w6 := ⟨_, rfl⟩
                  subst hwz
                  have hmw := hmH.out.below hbw.out
                  obtain ⟨A3, c3, B4, c4, us4, hxa⟩ := hx.out
                  obtain ⟨g4, M, rfl, hXf⟩ := Xf.start hmH.out hbw.out hxa
                  have z0 := hxa.bx.cell 0 _ rfl
                  have lz := hxa.bx.lt
                  have y0 := hmw.bx.cell 0 _ rfl
                  have yf := hmw.bx.froz 0
                  have ly := hmw.bx.lt
                  obtain ⟨ng, hng⟩ : ∃ ng, gs.length = ng := ⟨_, rfl⟩
                  simp only at z0
                  rw [hng] at z0 hXf
                  have hngH := Lib.hid hng
                  have hbw0 := Lib.hid ((hbw.out.mono (show b ≤ w.heap.size by omega)).setCell (p := ⟨b, 0, none⟩) (Nat.le_refl _) (.slice A3 ng c3))
                  have hXfH : Hid (Xf (wz.setCell ⟨b, 0, none⟩ (.slice A3 ng c3)) b w.heap.size g4 0 A3 c3 c4 p M us4 (fun j => (cntS p j).map (sdQ gs)) gs (ts0 ++ cntT gs p 0)) := Lib.hid (by
                    simp only [cntT, List.range_zero, List.map_nil, List.append_nil]; exact hXf)
                  have hgl2 := Lib.hid hgl
                  clear hng hXf hxa hmw hx hbw hgl
                  go_wp2_with fail
                  clear z0 lz y0 yf ly
                  go_loopg [14] 11 (fun g v wr => ∃ (i : Nat) (us : List Value), i + g = 11 ∧ v = .int .i64 (i : Int) ∧ Hid (Xf wr b w.heap.size g4 i A3 c3 c4 p M us (fun j => (cntS p j).map (sdQ gs)) gs (ts0 ++ cntT gs p i)) ∧ Hid (Below b w wr))
                  case atStart => exact ⟨0, us4, by omega, rfl, hXfH, hbw0⟩
                  case round =>
                    clear hXfH hbw0
                    obtain ⟨i, us, hi, rfl, hX, hbw⟩ := hrel
                    have z0 := hX.out.bx.cell 0 _ rfl
                    have z1 := hX.out.bx.cell 1 _ rfl
                    have lz := hX.out.bx.lt
                    by_cases hi11 : i < 11
                    · obtain ⟨ts, hts⟩ : ∃ ts, ts0 ++ cntT gs p i = ts := ⟨_, rfl⟩
                      rw [hts] at hX
                      have htsH := Lib.hid hts
                      obtain ⟨nt, hnt⟩ : ∃ nt, ts.length = nt := ⟨_, rfl⟩
                      have hntb : nt ≤ 60 := by rw [← hnt, ← hts, List.length_append, cntT_len]; omega
                      obtain ⟨u, hu⟩ : ∃ u, us[i]? = some u := ⟨_, List.getElem?_eq_getElem (by have := hX.out.len; omega)⟩
                      have hou := hX.out.own i u (Nat.le_refl _) hu
                      obtain ⟨a0, a1, a2, a3, hL⟩ : ∃ a0 a1 a2 a3 : Int, (cntS p i).map (sdQ gs) = [a0, a1, a2, a3] := by
                        have h4 := cntS_four p i
                        match cntS p i, h4 with
                        | [o0, o1, o2, o3], _ => exact ⟨_, _, _, _, rfl⟩
                      rw [hL] at hou
                      obtain ⟨gu, cu, rfl⟩ : ∃ g c, u = .slice (some ⟨g, 0, none⟩) 4 c := by
                        rcases hou.2 with ⟨_, h0⟩ | ⟨g, cap, cur, hv, _⟩
                        · simp at h0
                        · exact ⟨g, cap, hv⟩
                      have hLH := Lib.hid hL
                      have hlt2 := hX.out.lt
                      have s0 : wr.cell? ⟨gu, 0, none⟩ = some (.int .i64 a0) := hou.cellAt 0 (by decide)
                      have s1 : wr.cell? ⟨gu, 1, none⟩ = some (.int .i64 a1) := hou.cellAt 1 (by decide)
                      have s2 : wr.cell? ⟨gu, 2, none⟩ = some (.int .i64 a2) := hou.cellAt 2 (by decide)
                      have s3 : wr.cell? ⟨gu, 3, none⟩ = some (.int .i64 a3) := hou.cellAt 3 (by decide)
                      have lu := (hou.lt gu rfl).2
                      clear hts hL z0 z1 lz
                      rcases (show p = 0 ∨ p = 1 by omega) with rfl | rfl
                      · have htr := htrH.out
                        simp only [ne_eq, not_true_eq_false, decide_false] at htr
                        subst htr
                        clear s0 s1 s2 s3 lu hou
                        have z0 := hX.out.bx.cell 0 _ rfl
                        have z1 := hX.out.bx.cell 1 _ rfl
                        have lz := hX.out.bx.lt
                        obtain ⟨B2, c2, ums, hm⟩ := hX.out.m
                        obtain ⟨f, hr, hf1, hf2⟩ := hX.out.row
                        have hbig := hX.out.big
                        have t0 := (hr.cell (i := i * 2) (by omega)).trans (congrArg some (hf1 i (Nat.le_refl _) hi11))
                        have t1 := (hr.cell (i := i * 2 + 1) (by omega)).trans (congrArg some (hf2 i _ (Nat.le_refl _) hu))
                        have tf := hr.frozen (i * 2 + 1)
                        have lg := hr.lt
                        have y0 := hm.bx.cell 0 _ rfl
                        have y1 := hm.bx.cell 1 _ rfl
                        have yf := hm.bx.froz 1
                        have ly := hm.bx.lt
                        simp only at y1
                        rw [hnt] at y1
                        have hbwx := hbw.out
                        have hXx := hX.out
                        clear hf1 hf2 hr
                        go_wp2_with fail
                        refine wp_region_ord [(0, .p), (1, .q), (2, .q), (3, .q), (4, .q), (5, .q), (6, .q), (7, .q), (8, .q), (9, .q), (10, .q), (11, .q), (12, .q), (13, .q), (14, .g), (15, .b), (16, .q), (17, .q), (18, .q), (19, .b)] (by kernel_rfl) (by kernel_rfl) ?_
                        simp only [pick, List.filterMap_cons, List.filterMap_nil, List.getElem?_toArray, List.getElem?_cons_zero, List.getElem?_cons_succ, Option.map_some]
                        repeat (first | ((with_reducible refine wpD_p (fun K hK => ?_)); go_simp; refine hK _ ?_; clear hK K) | ((with_reducible refine wpD_q (fun K hK => ?_)); go_simp; (first | refine hK _ ?_ | (go_bits; refine hK _ ?_) | (go_bits; go_simp; refine hK _ ?_)); clear hK K))
                        with_reducible refine wpD_g (fun K hK => ?_)
                        go_simp
                        refine ⟨Grew.of_alloc _, hK _ _ ?_⟩
                        clear hK K
                        repeat (first | ((with_reducible refine wpD_p (fun K hK => ?_)); go_simp; refine hK _ ?_; clear hK K) | ((with_reducible refine wpD_q (fun K hK => ?_)); go_simp; (first | refine hK _ ?_ | (go_bits; refine hK _ ?_) | (go_bits; go_simp; refine hK _ ?_)); clear hK K))
                        have hul := hm.ti.len
                        have hout := hm.ti.outer
                        simp only at hout hul
                        rw [hul, hnt] at hout
                        have hjb : Below wr.heap.size wr (wr.alloc (Obj.cells #[.string (tqn (0, 0, i)), .slice (some ⟨gu, 0, none⟩) 4 cu] 73)).drew := bl_dr (bl_al (bl_refl _) _)
                        refine wpD_append_atN rfl _ _ 23 rfl (b + 1) 73 iT (.agg #[.string ByteArray.empty, .slice none 0 0]) 2 40 Tryz.underlying23 hiT hT0 hT1 hT2 rfl (by decide) (.slice B2 nt c2) nt (flatC encNU ((ts.map Ti.name).zip ums)) (by go_simp) (ownsRow_below hout hjb) ⟨wr.heap.size, 0, none⟩ 1 1 [.string (tqn (0, 0, i)), .slice (some ⟨gu, 0, none⟩) 4 cu] (by go_simp) rfl (cell_two_at wr _ _ _ rfl) (fun x hx => by simp at hx; rcases hx with rfl | rfl <;> rfl) (by unfold maxLen; omega) (by omega) (by simp; omega) ?_
                        intro v5 w5 hown5 hgrow5 hat5
                        obtain ⟨A5, c5, rfl⟩ := ownsRow_form hown5
                        have hnb : ∀ g, (Value.slice B2 nt c2).ownBlock = some g → b + 1 ≤ g := fun g e => (hout.lt g e).1
                        have hX9 := Lib.hid ((hXx.below hjb).push (hm.below hjb) hu hnt hown5 hgrow5 hat5)
                        have bx5 := (hm.below hjb).bx.grown hgrow5 (fun e => by have := hnb _ e; omega)
                        have y0 := bx5.cell 0 _ rfl
                        have y1 := bx5.cell 1 _ rfl
                        have yf := bx5.froz 1
                        have ly := bx5.lt
                        have hbw5 := Lib.hid ((hbwx.trans (hjb.mono (show b ≤ wr.heap.size by omega))).grown hgrow5 (by have := hbwx.size; simp; omega) (fun g e => by have := hnb g e; omega))
                        clear hown5 hgrow5 hat5 hjb hout hul hnb bx5
                        repeat (first | ((with_reducible refine wpD_p (fun K hK => ?_)); go_simp; refine hK _ ?_; clear hK K) | ((with_reducible refine wpD_q (fun K hK => ?_)); go_simp; (first | refine hK _ ?_ | (go_bits; refine hK _ ?_) | (go_bits; go_simp; refine hK _ ?_)); clear hK K))
                        with_reducible refine wpD_b (fun K hK => ?_)
                        go_simp
                        refine hK _ _ ?_
                        clear hK K
                        with_reducible refine wpD_nil ?_
                        go_wp2
                        go_roundg (11 - (i + 1))
                        case measure => omega
                        case rel => exact ⟨i + 1, us, by omega, by go_num, Lib.hid (by rw [cntT_succ, ← List.append_assoc, htsH.out]; exact hX9.out), Lib.hid (hbw5.out.setCell (p := ⟨b, 1, none⟩) (Nat.le_refl _) _)⟩
                      · have htr := htrH.out
                        simp at htr
                        subst htr
                        have z0 := hX.out.bx.cell 0 _ rfl
                        have z1 := hX.out.bx.cell 1 _ rfl
                        have lz := hX.out.bx.lt
                        obtain ⟨B2, c2, ums, hm⟩ := hX.out.m
                        obtain ⟨f, hr, hf1, hf2⟩ := hX.out.row
                        have hbig := hX.out.big
                        have t0 := (hr.cell (i := i * 2) (by omega)).trans (congrArg some (hf1 i (Nat.le_refl _) hi11))
                        have t1 := (hr.cell (i := i * 2 + 1) (by omega)).trans (congrArg some (hf2 i _ (Nat.le_refl _) hu))
                        have tf := hr.frozen (i * 2 + 1)
                        have lg := hr.lt
                        have y0 := hm.bx.cell 0 _ rfl
                        have y1 := hm.bx.cell 1 _ rfl
                        have yf := hm.bx.froz 1
                        have ly := hm.bx.lt
                        simp only at y1
                        rw [hnt] at y1
                        have hbwx := hbw.out
                        have hXx := hX.out
                        clear hf1 hf2 hr
                        go_wp2_with fail
                        refine wp_region_ord [(0, .q), (1, .q), (2, .q), (3, .q), (4, .q), (5, .q), (6, .q), (7, .q), (8, .q), (9, .q), (10, .q), (11, .q), (12, .q), (13, .q), (14, .q), (15, .g), (16, .q), (17, .q), (18, .b)] (by kernel_rfl) (by kernel_rfl) ?_
                        simp only [pick, List.filterMap_cons, List.filterMap_nil, List.getElem?_toArray, List.getElem?_cons_zero, List.getElem?_cons_succ, Option.map_some]
                        repeat (first | ((with_reducible refine wpD_p (fun K hK => ?_)); go_simp; refine hK _ ?_; clear hK K) | ((with_reducible refine wpD_q (fun K hK => ?_)); go_simp; (first | refine hK _ ?_ | (go_bits; refine hK _ ?_) | (go_bits; go_simp; refine hK _ ?_)); clear hK K))
                        with_reducible refine wpD_g (fun K hK => ?_)
                        go_simp
                        refine (lTurned_any gu cu a0 a1 a2 a3 _ (by simpa using s0) (by simpa using s1) (by simpa using s2) (by simpa using s3) (by simpa using lu)).mono ?_
                        rintro e wT ⟨rfl, hwT⟩
                        refine ⟨_, rfl, (by rw [hwT]; exact bl_al (bl_dr (bl_refl _)) _), hK _ _ ?_⟩
                        clear hK K
                        obtain ⟨r, hr0⟩ : ∃ r, wr.heap.size = r := ⟨_, rfl⟩
                        have hbT : Below wr.heap.size wr wT := by rw [hwT]; exact bl_al (bl_dr (bl_dr (bl_refl _))) _
                        have hxT : wT.ownsRow (w.heap.size + 1) 2 1 (.slice (some ⟨wr.heap.size, 0, none⟩) 4 4) [a1, a0, a3, a2].length (flatC encI [a1, a0, a3, a2]) := by
                          rw [hwT]
                          exact World.ownsRow_lit (base := w.heap.size + 1) (e := 2) (size := 1) wr.drew.drew #[.int .i64 a1, .int .i64 a0, .int .i64 a3, .int .i64 a2] 4 (show w.heap.size + 1 ≤ wr.heap.size by omega) (by decide) rfl
                        have hXt := Lib.hid (hX.out.turn hbT hi11 hxT (fun g e => by have e2 : some wr.heap.size = some g := e; injection e2 with e2; omega))
                        have t1 := (hbT.cell (p := ⟨g4, i * 2 + 1, none⟩) lg).trans t1
                        have tf := (hbT.frozen (p := ⟨g4, i * 2 + 1, none⟩) lg).trans tf
                        have lg2 := lg
                        have lg := Nat.lt_of_lt_of_le lg hbT.size
                        have hbn0 : Below b w wT := hbw.out.trans (hbT.mono (show b ≤ wr.heap.size by omega))
                        have hbnH := Lib.hid (hbn0.setCell (p := ⟨g4, i * 2 + 1, none⟩) (show b ≤ g4 by omega) (.slice (some ⟨wr.heap.size, 0, none⟩) 4 4))
                        have hu2 : (us.set i (.slice (some ⟨wr.heap.size, 0, none⟩) 4 4))[i]? = some (.slice (some ⟨wr.heap.size, 0, none⟩) 4 4) := by rw [List.getElem?_set_self (by have := hX.out.len; omega)]
                        clear hwT hbT hxT hbn0 hr0 hX hbw hou s0 s1 s2 s3 lu z0 z1 lz t0 y0 y1 yf ly hbwx hXx hm hu
                        repeat (first | ((with_reducible refine wpD_p (fun K hK => ?_)); go_simp; refine hK _ ?_; clear hK K) | ((with_reducible refine wpD_q (fun K hK => ?_)); go_simp; (first | refine hK _ ?_ | (go_bits; refine hK _ ?_) | (go_bits; go_simp; refine hK _ ?_)); clear hK K))
                        with_reducible refine wpD_b (fun K hK => ?_)
                        go_simp
                        refine hK _ _ ?_
                        clear hK K
                        with_reducible refine wpD_nil ?_
                        obtain ⟨wn, hwn⟩ : ∃ x : World, x = wT.setCell ⟨g4, i * 2 + 1, none⟩ (.slice (some ⟨wr.heap.size, 0, none⟩) 4 4) := ⟨_, rfl⟩
                        rw [← hwn] at hXt hbnH ⊢
                        clear hwn t1 tf lg lg2
                        obtain ⟨r, hr0⟩ : ∃ r, wr.heap.size = r := ⟨_, rfl⟩
                        rw [hr0] at hXt hu2 ⊢
                        have hu := hu2
                        clear hr0
                        have z0 := hXt.out.bx.cell 0 _ rfl
                        have z1 := hXt.out.bx.cell 1 _ rfl
                        have lz := hXt.out.bx.lt
                        obtain ⟨B2, c2, ums, hm⟩ := hXt.out.m
                        obtain ⟨f, hr, hf1, hf2⟩ := hXt.out.row
                        have hbig := hXt.out.big
                        have t0 := (hr.cell (i := i * 2) (by omega)).trans (congrArg some (hf1 i (Nat.le_refl _) hi11))
                        have t1 := (hr.cell (i := i * 2 + 1) (by omega)).trans (congrArg some (hf2 i _ (Nat.le_refl _) hu))
                        have tf := hr.frozen (i * 2 + 1)
                        have lg := hr.lt
                        have y0 := hm.bx.cell 0 _ rfl
                        have y1 := hm.bx.cell 1 _ rfl
                        have yf := hm.bx.froz 1
                        have ly := hm.bx.lt
                        simp only at y1
                        rw [hnt] at y1
                        have hbwx := hbnH.out
                        have hXx := hXt.out
                        clear hf1 hf2 hr
                        go_wp2_with fail
                        refine wp_region_ord [(0, .p), (1, .q), (2, .q), (3, .q), (4, .q), (5, .q), (6, .q), (7, .q), (8, .q), (9, .q), (10, .q), (11, .q), (12, .q), (13, .q), (14, .g), (15, .b), (16, .q), (17, .q), (18, .q), (19, .b)] (by kernel_rfl) (by kernel_rfl) ?_
                        simp only [pick, List.filterMap_cons, List.filterMap_nil, List.getElem?_toArray, List.getElem?_cons_zero, List.getElem?_cons_succ, Option.map_some]
                        repeat (first | ((with_reducible refine wpD_p (fun K hK => ?_)); go_simp; refine hK _ ?_; clear hK K) | ((with_reducible refine wpD_q (fun K hK => ?_)); go_simp; (first | refine hK _ ?_ | (go_bits; refine hK _ ?_) | (go_bits; go_simp; refine hK _ ?_)); clear hK K))
                        with_reducible refine wpD_g (fun K hK => ?_)
                        go_simp
                        refine ⟨Grew.of_alloc _, hK _ _ ?_⟩
                        clear hK K
                        repeat (first | ((with_reducible refine wpD_p (fun K hK => ?_)); go_simp; refine hK _ ?_; clear hK K) | ((with_reducible refine wpD_q (fun K hK => ?_)); go_simp; (first | refine hK _ ?_ | (go_bits; refine hK _ ?_) | (go_bits; go_simp; refine hK _ ?_)); clear hK K))
                        have hul := hm.ti.len
                        have hout := hm.ti.outer
                        simp only at hout hul
                        rw [hul, hnt] at hout
                        have hjb : Below wn.heap.size wn (wn.alloc (Obj.cells #[.string (tqn (0, 1, i)), .slice (some ⟨r, 0, none⟩) 4 4] 73)).drew := bl_dr (bl_al (bl_refl _) _)
                        refine wpD_append_atN rfl _ _ 23 rfl (b + 1) 73 iT (.agg #[.string ByteArray.empty, .slice none 0 0]) 2 40 Tryz.underlying23 hiT hT0 hT1 hT2 rfl (by decide) (.slice B2 nt c2) nt (flatC encNU ((ts.map Ti.name).zip ums)) (by go_simp) (ownsRow_below hout hjb) ⟨wn.heap.size, 0, none⟩ 1 1 [.string (tqn (0, 1, i)), .slice (some ⟨r, 0, none⟩) 4 4] (by go_simp) rfl (cell_two_at wn _ _ _ rfl) (fun x hx => by simp at hx; rcases hx with rfl | rfl <;> rfl) (by unfold maxLen; omega) (by omega) (by simp; omega) ?_
                        intro v5 w5 hown5 hgrow5 hat5
                        obtain ⟨A5, c5, rfl⟩ := ownsRow_form hown5
                        have hnb : ∀ g, (Value.slice B2 nt c2).ownBlock = some g → b + 1 ≤ g := fun g e => (hout.lt g e).1
                        have hX9 := Lib.hid ((hXx.below hjb).push (hm.below hjb) hu hnt hown5 hgrow5 hat5)
                        have bx5 := (hm.below hjb).bx.grown hgrow5 (fun e => by have := hnb _ e; omega)
                        have y0 := bx5.cell 0 _ rfl
                        have y1 := bx5.cell 1 _ rfl
                        have yf := bx5.froz 1
                        have ly := bx5.lt
                        have hbw5 := Lib.hid ((hbwx.trans (hjb.mono (show b ≤ wn.heap.size by omega))).grown hgrow5 (by have := hbwx.size; simp; omega) (fun g e => by have := hnb g e; omega))
                        clear hown5 hgrow5 hat5 hjb hout hul hnb bx5
                        repeat (first | ((with_reducible refine wpD_p (fun K hK => ?_)); go_simp; refine hK _ ?_; clear hK K) | ((with_reducible refine wpD_q (fun K hK => ?_)); go_simp; (first | refine hK _ ?_ | (go_bits; refine hK _ ?_) | (go_bits; go_simp; refine hK _ ?_)); clear hK K))
                        with_reducible refine wpD_b (fun K hK => ?_)
                        go_simp
                        refine hK _ _ ?_
                        clear hK K
                        with_reducible refine wpD_nil ?_
                        go_wp2
                        go_roundg (11 - (i + 1))
                        case measure => omega
                        case rel => exact ⟨i + 1, us.set i (.slice (some ⟨r, 0, none⟩) 4 4), by omega, by go_num, Lib.hid (by have h9 := hX9.out.congr (L' := fun j => (cntS 1 j).map (sdQ gs)) (fun j hj => if_neg (show ¬ j = i by omega)); simp only [↓reduceIte] at h9; rw [cntT_succ, ← List.append_assoc, htsH.out, show tlQ gs (0, 1, i) (trnQ 1 (cntS 1 i)) = ⟨tqn (0, 1, i), [a1, a0, a3, a2]⟩ by unfold tlQ; rw [trn_eq (cntS_four 1 i) hLH.out]]; exact h9), Lib.hid (hbw5.out.setCell (p := ⟨b, 1, none⟩) (Nat.le_refl _) _)⟩
                    · obtain rfl : i = 11 := by omega
                      go_wp2
                      refine bodyPost_end (v := .tuple #[]) (by simp only [results, Tryz.results29]; go_simp) rfl ?_
                      obtain ⟨B2, c2, ums, hm⟩ := hX.out.m
                      refine ⟨rfl, ⟨A3, c3, B2, c2, ums, ?_⟩, hbw.out⟩
                      rw [hgsH.out]
                      exact ⟨hm.bx, hm.ty, hm.gl, hm.ti, fun g hg => hg.elim⟩
end Go.Proofs.YtpnahobgmemdjaaGreatDoor
