/- Walks: JoinStrength, the program's and the reference's. -/
import Derived.Test.YthieodccakphiaaGreatW35
namespace Go.Proofs.YthieodccakphiaaGreat
open Go.RowKit Go.Shelf
set_option linter.unusedSimpArgs false
set_option linter.unusedVariables false
attribute [local go_sem] BelowBy.cell BelowBy.cell_drew stillUpon givesUpon BelowBy.cell_drew2 BelowBy.cell_drew3

def okA (ts : List Ti) (xs : List Pl) : Bool := hasFormB xs && allB xs.length (okTile ts.length xs)
theorem l03Ok_at {p q : Nat} {gs : List Gl} {ts : List Ti} {xs : List Pl} {v : Bool} {w : World} (hs : SetAt w p 0 gs ts) (ha : AsmAt w q 0 xs) (hq : xs.length ≤ 1073741824) (htm : ts.length ≤ 140737488355328) (h : okA ts xs = v) :
    Calls Tryz.prog 50 #[.pointer (some ⟨p, 0, none⟩), .pointer (some ⟨q, 0, none⟩)] w fun e w' => e = .returned (.bool v) ∧ Below w.heap.size w w' := by
  subst h; exact l03Ok_any p q gs ts xs w hs ha hq htm
theorem l02Ok_at {p : Nat} {gs : List Gl} {ts : List Ti} {v : Bool} {w : World} (h : SetAt w p 0 gs ts) (hgm : gs.length ≤ 281474976710656) (htm : ts.length ≤ 281474976710656)
    (hgn : ∀ (k : Nat) (e : Gl), gs[k]? = some e → e.name.size ≤ 9223372036854775807) (htn : ∀ (k : Nat) (e : Ti), ts[k]? = some e → e.name.size ≤ 9223372036854775807 ∧ e.sides.length ≤ 9223372036854775807) (hv : validSetB gs ts = v) :
    Calls Tryz.prog 49 #[.pointer (some ⟨p, 0, none⟩)] w fun e w' => e = .returned (.bool v) ∧ Below w.heap.size w w' := by
  subst hv; exact l02Ok_any p gs ts w h hgm htm hgn htn
def askJ (gs : List Gl) (ts : List Ti) (xs ys : List Pl) : Bool := validAsmB gs ts xs && validAsmB gs ts ys
theorem askJ_eq (gs : List Gl) (ts : List Ti) (xs ys : List Pl) : askJ gs ts xs ys = (validSetB gs ts && okA ts xs && okA ts ys) := by
  unfold askJ validAsmB okA
  cases validSetB gs ts <;> simp
def okM (dx dy : Int) (ys : List Pl) : Bool := inB dx (-120) 120 && inB dy (-120) 120 && mvOk dx dy ys
def MvRes2 (w : World) (dx dy : Int) (xs : List Pl) (e : Ending) (w' : World) : Prop :=
  ∃ B m c', e = .returned (.tuple #[.agg #[.slice B m c'], .bool (okM dx dy xs)]) ∧ (okM dx dy xs = true → m = xs.length ∧ RdSl 3 RPl w' B m (mvL dx dy xs)) ∧ Below w.heap.size w w'
set_option maxRecDepth 100000 in
set_option maxHeartbeats 2000000 in
theorem l29Strength_any {opa opc : Nat} (p pa pc : Nat) (gs : List Gl) (ts : List Ti) (xs ms : List Pl) (w : World) (h : SAt w p 0 pa opa gs ts xs) (hc : AsmAt w pc opc ms) (hV : Valid gs ts xs) (hml : ms.length ≤ 500)
    (hpt : ∀ (k : Nat) (e : Pl), ms[k]? = some e → (-60 ≤ e.x ∧ e.x ≤ 60) ∧ (-60 ≤ e.y ∧ e.y ≤ 60) ∧ ∃ t : Nat, e.t = t ∧ t < ts.length) :
    Calls Tryz.prog 93 #[.pointer (some ⟨p, 0, none⟩), .pointer (some ⟨pa, opa, none⟩), .pointer (some ⟨pc, opc, none⟩)] w (ChkRes w (joinE gs ts xs ms)) := by
  obtain ⟨hlt, ⟨B, nb, cb, h1, h2⟩⟩ := id hc
  have hl := h2.len
  have hH := Lib.hid h
  have h2H := Lib.hid h2
  have hptH := Lib.hid hpt
  clear h h2 hc hpt
  go_enter Tryz.func93, Tryz.ntmps93
  go_wp2
  go_loopg [9, 8] nb (fun r x s wr => ∃ k : Nat, k + r = nb ∧ x = .int .i64 (k : Int) ∧ s = .int .i64 (sumJ gs ts xs ms k) ∧ Hid (∀ j, j < k → freeAt xs ms j = true) ∧ Below w.heap.size w wr)
  case atStart => exact ⟨0, by omega, rfl, rfl, Lib.hid (fun j hj => by omega), bl_refl _⟩
  case round =>
    obtain ⟨k, hk, rfl, rfl, hfr, hbw⟩ := hrel
    have hbd := sumJ_bound hV ms k
    have g1 := (hbw.cell (p := ⟨pc, opc, none⟩) hlt).trans h1
    have hpw : pc < wr.heap.size := Nat.lt_of_lt_of_le hlt hbw.size
    by_cases hkn : k < nb
    · obtain ⟨e, he⟩ : ∃ e, ms[k]? = some e := ⟨_, List.getElem?_eq_getElem (by omega)⟩
      obtain ⟨ex, ey, t, ht, htl⟩ := hptH.out k e he
      obtain ⟨b, o, hAe, hb, hc⟩ := (h2H.out.below RPl.stable hbw).ptr (by omega)
      obtain ⟨c0, c1, c2⟩ := hc k e he
      rw [ht] at c2
      subst hAe
      obtain ⟨S, hSS⟩ : ∃ S, sumJ gs ts xs ms k = S := ⟨_, rfl⟩
      rw [hSS] at hbd
      rw [hSS]
      have b0 : 0 ≤ S := hbd.1
      have b1 : S ≤ 8000 := by have := hbd.2; omega
      have hSSH := Lib.hid hSS
      have heH := Lib.hid he
      have htH := Lib.hid ht
      have hS4 := Lib.hid (hH.out.below hbw)
      clear hc he ht hSS hbd
      rcases atI_cases hV e.x e.y with ⟨hp, hat⟩ | ⟨i, t2, d, hp, _, _, ht2, hat⟩
      · have hpH := Lib.hid hp
        obtain ⟨r, hr⟩ : ∃ r, bindN gs ts xs e.x e.y t 4 = r := ⟨_, rfl⟩
        have hrr := bindN_bound hV e.x e.y t 4
        rw [hr] at hrr
        have r0 : 0 ≤ r := hrr.1
        have r1 : r ≤ 16 := by have := hrr.2; omega
        have hnx := Lib.hid (sumJ_succ hSSH.out heH.out htH.out hr)
        have hbrH := Lib.hid hr
        have hfk := Lib.hid ((freeAt_eq (xs := xs) heH.out).trans (decide_eq_true (by omega)))
        clear hat hr hrr hp
        go_wp2_with fail
        refine (l03Index_at (hS4.out.below (by exact bel_)).a hV hpH.out).mono ?_
        rintro e' w1 ⟨rfl, hb1⟩
        obtain ⟨chb1, fhb1, shb1, thb1⟩ := bcell hb1
        have q0 := shb1 b hb
        have q1 := shb1 pc hpw
        go_wp2
        refine wp_region_ord [(0, .q), (1, .q), (2, .q), (3, .q), (4, .q), (5, .q), (6, .q), (7, .q), (8, .q), (9, .q), (10, .q), (11, .q), (12, .q), (13, .q), (14, .q), (15, .q), (16, .q), (17, .q), (18, .q), (19, .g), (20, .q), (21, .q)] (by kernel_rfl) (by kernel_rfl) ?_
        simp only [pick, List.filterMap_cons, List.filterMap_nil, List.getElem?_toArray, List.getElem?_cons_zero, List.getElem?_cons_succ, Option.map_some]
        repeat (first
          | ((with_reducible refine wpD_p (fun K hK => ?_)); go_simp; refine hK _ ?_; clear hK K)
          | ((with_reducible refine wpD_q (fun K hK => ?_)); go_simp; (first | refine hK _ ?_ | (go_bits; refine hK _ ?_) | (go_bits; go_simp; refine hK _ ?_)); clear hK K)
          | ((with_reducible refine wpD_g (fun K hK => ?_)); go_simp; refine hK _ _ ?_; clear hK K)
          | ((with_reducible refine wpD_g (fun K hK => ?_)); go_simp; refine ⟨Grew.of_alloc _, hK _ _ ?_⟩; clear hK K)
          | ((with_reducible refine wpD_g (fun K hK => ?_)); go_simp; go_at_call 73; refine (l06Binding_at t rfl (hS4.out.below (by exact bel_)).s (hS4.out.below (by exact bel_)).a hV htl ⟨by omega, by omega⟩ ⟨by omega, by omega⟩ hbrH.out).mono ?_; rintro e w2 ⟨rfl, hb2⟩; refine ⟨_, rfl, hb2, hK _ _ ?_⟩; clear hK K; obtain ⟨chb2, fhb2, shb2, thb2⟩ := bcell hb2))
        with_reducible refine wpD_nil ?_
        go_wp2
        go_roundg (nb - (k + 1))
        case measure => omega
        case rel => exact ⟨k + 1, by omega, by go_num, by rw [hnx.out, wrap_in (by omega) (by omega)], Lib.hid (fun j hj => by
            rcases Nat.lt_succ_iff_lt_or_eq.1 hj with hj | rfl
            · exact hfr.out j hj
            · exact hfk.out), bl_tr hbw (by exact bel_)⟩
      · have hpH := Lib.hid hp
        have hhit := Lib.hid (joinE_hit (gs := gs) (ts := ts) (xs := xs) heH.out hp)
        clear hat hp
        go_wp2_with fail
        refine (l03Index_at (hS4.out.below (by exact bel_)).a hV hpH.out).mono ?_
        rintro e' w1 ⟨rfl, hb1⟩
        go_wp2
        go_ret2
        exact ChkRes.of hhit.out (bl_tr hbw (by exact bel_))
    · obtain rfl : k = nb := by omega
      have hall := Lib.hid (joinE_all (gs := gs) (ts := ts) (xs := xs) (ms := ms) (by rw [hl]; exact hfr.out))
      go_wp2
      go_ret2
      exact ChkRes.of (by rw [← hall.out, hl]) hbw
end Go.Proofs.YthieodccakphiaaGreat
