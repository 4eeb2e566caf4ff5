/- Walks: the program's check of a set. -/
import Derived.Test.YtmhgjgclclnmaaaGreatW8
import Derived.Carry
import Derived.Deep.DeepMust
namespace Go.Proofs.YtmhgjgclclnmaaaGreat
open Go.RowKit
set_option linter.unusedSimpArgs false
set_option linter.unusedVariables false
attribute [local go_sem] BelowBy.cell BelowBy.cell_drew stillUpon givesUpon
/-- one of the first k glues bears the name -/
def seenG (gs : List Gl) (k : Nat) (s : ByteArray) : Bool := !allB k (fun i => match gs[i]? with | none => true | some e => decide (e.name ≠ s))
def seenT (ts : List Ti) (k : Nat) (s : ByteArray) : Bool := !allB k (fun i => match ts[i]? with | none => true | some e => decide (e.name ≠ s))
theorem allB_succ (k : Nat) (p : Nat → Bool) : allB (k + 1) p = (allB k p && p k) := by
  unfold allB; rw [List.range_succ, List.all_append]; simp
theorem seenG_succ {gs : List Gl} {k : Nat} {e : Gl} (h : gs[k]? = some e) (s : ByteArray) : (seenG gs k s || decide (s = e.name)) = seenG gs (k + 1) s := by
  unfold seenG; rw [allB_succ, h]
  by_cases hs : s = e.name
  · subst hs; simp
  · have : ¬ e.name = s := fun h => hs h.symm
    simp [hs, this]
theorem seenT_succ {ts : List Ti} {k : Nat} {e : Ti} (h : ts[k]? = some e) (s : ByteArray) : (seenT ts k s || decide (s = e.name)) = seenT ts (k + 1) s := by
  unfold seenT; rw [allB_succ, h]
  by_cases hs : s = e.name
  · subst hs; simp
  · have : ¬ e.name = s := fun h => hs h.symm
    simp [hs, this]
theorem freshG_seen {gs : List Gl} {k : Nat} {e : Gl} (h : gs[k]? = some e) : seenG gs k e.name = !freshG gs k := by unfold seenG freshG; simp only [h]; congr 1
theorem freshT_seen {ts : List Ti} {k : Nat} {e : Ti} (h : ts[k]? = some e) : seenT ts k e.name = !freshT ts k := by unfold seenT freshT; simp only [h]; congr 1
theorem BMap.made2 (w : World) (o : Obj) : BMap ((w.alloc o).alloc (.map #[] 0)) (w.heap.size + 1) 0 (fun _ => false) := by
  have := BMap.made (w.alloc o)
  rwa [World.size_alloc] at this
theorem isNameB_le {s : ByteArray} (h : isNameB s = true) : s.size ≤ 12 := by
  simp [isNameB] at h; exact h.2
set_option maxHeartbeats 4000000 in
theorem ValidSet_any (G T : Option Addr) (n cg m ct : Nat) (gs : List Gl) (ts : List Ti) (w : World) (hG : RdSl 2 RGl w G n gs) (hT : RdSl 2 RTi w T m ts) (hgm : n ≤ 281474976710656) (htm : m ≤ 281474976710656)
    (hgn : ∀ (k : Nat) (e : Gl), gs[k]? = some e → e.name.size ≤ 9223372036854775807) (htn : ∀ (k : Nat) (e : Ti), ts[k]? = some e → e.name.size ≤ 9223372036854775807 ∧ e.sides.length ≤ 9223372036854775807) :
    Calls Tryz.prog 103 #[.agg #[.slice G n cg, .slice T m ct]] w fun e w' => e = .returned (.bool (validSetB gs ts)) ∧ Below w.heap.size w w' := by
  have hlg := hG.len
  have hlt' := hT.len
  have hgn := Lib.hid hgn
  have htn := Lib.hid htn
  have hmm := @run_makeMap Tryz.prog
  by_cases hz1 : n ≤ 200
  rotate_left
  · go_enter Tryz.func103, Tryz.ntmps103
    go_wp2_with (go_at_call 51; refine (within_any _ _ _ _).mono ?_; rintro e _ ⟨rfl, rfl⟩)
    go_ret
    exact ⟨ret_bool (validSetB_size (by omega)).symm, by exact bel_⟩
  cases hz2 : inB m 1 160
  · have hz2' := inB_false.1 hz2
    go_enter Tryz.func103, Tryz.ntmps103
    go_wp2_with (go_at_call 51; refine (within_any _ _ _ _).mono ?_; rintro e _ ⟨rfl, rfl⟩)
    go_ret
    exact ⟨ret_bool (validSetB_size (by omega)).symm, by exact bel_⟩
  have hz2' := inB_true.1 hz2
  go_enter Tryz.func103, Tryz.ntmps103
  go_wp2_with (go_at_call 51; refine (within_any _ _ _ _).mono ?_; rintro e _ ⟨rfl, rfl⟩)
  go_loopg [24] n (fun r x wr => ∃ k : Nat, k + r = n ∧ x = .int .i64 k ∧ (∀ j, j < k → okGl gs j = true) ∧ Below w.heap.size w wr ∧ BMap wr (w.heap.size + 1) k (seenG gs k) ∧
    wr.cell? ⟨w.heap.size, 0, none⟩ = some (.slice G n cg) ∧ wr.cell? ⟨w.heap.size, 1, none⟩ = some (.slice T m ct))
  case atStart => exact ⟨0, by omega, rfl, fun j hj => by omega, by exact bel_, (BMap.made2 _ _).say (fun s => rfl), by go_simp, by go_simp⟩
  case round =>
    obtain ⟨k, hk, rfl, hokX, hbw, hbm, g1, g3⟩ := hrel
    have hlts := hbm.lt
    have hlts' : w.heap.size < wr.heap.size := by omega
    have hokT := Lib.hid hokX
    clear hokX
    by_cases hkn : k < n
    · have hG' := hG.below RGl.stable hbw
      obtain ⟨b, o, rfl, hb, hc⟩ := hG'.ptr (by omega)
      obtain ⟨e, he⟩ := hG'.get hkn
      obtain ⟨c0, c1⟩ := hc k e he
      have hsz := hgn.out k e he
      have HK := Lib.hid (okGl_eq he)
      have HF := Lib.hid (freshG_seen he)
      have HS := Lib.hid (seenG_succ he)
      clear he hG' hc
      cases hv1 : isNameB e.name
      · go_wp2_with (go_at_call 152; refine (IsName_any _ _ hsz).mono ?_; rintro e _ ⟨rfl, rfl⟩)
        go_ret
        exact ⟨ret_bool (validSetB_gl (k := k) (by omega) (by rw [HK.out, hv1]; rfl)).symm, by exact bel_⟩
      · have hle := isNameB_le hv1
        cases hv3 : freshG gs k
        · have hsn : seenG gs k e.name = true := by rw [HF.out, hv3]; rfl
          go_wp2_with (first
            | (go_at_call 152; refine (IsName_any _ _ hsz).mono ?_; rintro e _ ⟨rfl, rfl⟩)
            | (at_lookup; go_must (refine wpList_lookup_names _ (by go_simp) _ _ rfl (w.heap.size + 1) k _ rfl (hbm.below (by exact bel_)) e.name (by unfold maxLen; omega) rfl ?_))
            | (go_at_call 51; refine (within_any _ _ _ _).mono ?_; rintro e _ ⟨rfl, rfl⟩))
          go_ret
          exact ⟨ret_bool (validSetB_gl (k := k) (by omega) (by rw [HK.out, hv1, hv3]; simp)).symm, by exact bel_⟩
        · have hsn : seenG gs k e.name = false := by rw [HF.out, hv3]; rfl
          cases hv2 : inB e.s 1 4
          · go_wp2_with (first
              | (go_at_call 152; refine (IsName_any _ _ hsz).mono ?_; rintro e _ ⟨rfl, rfl⟩)
              | (at_lookup; refine wpList_lookup_names _ (by go_simp) _ _ rfl (w.heap.size + 1) k _ rfl (hbm.below (by exact bel_)) e.name (by unfold maxLen; omega) rfl ?_)
              | (go_at_call 51; refine (within_any _ _ _ _).mono ?_; rintro e _ ⟨rfl, rfl⟩))
            go_ret
            exact ⟨ret_bool (validSetB_gl (k := k) (by omega) (by rw [HK.out, hv1, hv2]; rfl)).symm, by exact bel_⟩
          · go_wp2_with (first
              | (go_at_call 152; refine (IsName_any _ _ hsz).mono ?_; rintro e _ ⟨rfl, rfl⟩)
              | (at_lookup; refine wpList_lookup_names _ (by go_simp) _ _ rfl (w.heap.size + 1) k _ rfl (hbm.below (by exact bel_)) e.name (by unfold maxLen; omega) rfl ?_)
              | (at_mapUpdate; refine wpList_update_names _ rfl _ _ _ rfl (w.heap.size + 1) k _ rfl (hbm.below (by exact bel_)) e.name (by unfold maxLen; omega) (by unfold maxLen; omega) rfl rfl ?_; intro w1 hbm1 hb1 hk1; have q1 := hk1 wr.heap.size 1 (by omega) (by simp))
              | (go_at_call 51; refine (within_any _ _ _ _).mono ?_; rintro e _ ⟨rfl, rfl⟩))
            go_roundg (n - (k + 1))
            case measure => omega
            case rel => exact ⟨k + 1, by omega, by go_num, fun j hj => (by rcases Nat.lt_succ_iff_lt_or_eq.1 hj with hj | rfl; exact hokT.out j hj; rw [HK.out, hv1, hv2, hv3]; rfl), Below.trans (by exact bel_) (hb1.mono (by omega)), hbm1.say HS.out, (hb1.cell (p := ⟨w.heap.size, 0, none⟩) (Nat.lt_succ_self _)).trans (by go_simp), (hb1.cell (p := ⟨w.heap.size, 1, none⟩) (Nat.lt_succ_self _)).trans (by go_simp)⟩
    · obtain rfl : n = k := by omega
      have hokG := Lib.hid (fun (j : Nat) (hj : j < gs.length) => hokT.out j (by omega))
      clear hokT
      go_wp2
      obtain ⟨wx, hwx⟩ : ∃ wx, wx = wr := ⟨_, rfl⟩
      subst hwx
      clear hbm
      have hlen : gs.length = n := by omega
      go_loopg [52] m (fun r x wr => ∃ k : Nat, k + r = m ∧ x = .int .i64 k ∧ (∀ j, j < k → okTi gs.length ts j = true) ∧ Below w.heap.size w wr ∧ BMap wr wx.heap.size k (seenT ts k) ∧
        wr.cell? ⟨w.heap.size, 0, none⟩ = some (.slice G n cg) ∧ wr.cell? ⟨w.heap.size, 1, none⟩ = some (.slice T m ct))
      case atStart => exact ⟨0, by omega, rfl, fun j hj => by omega, by exact bel_, (BMap.made _).say (fun s => rfl), by go_simp, by go_simp⟩
      case round =>
        obtain ⟨k, hk, rfl, hokX, hbw2, hbm, g1, g3⟩ := hrel
        have hlt2 := hbm.lt
        have hlt2' : w.heap.size < wr.heap.size := by omega
        have hokT := Lib.hid hokX
        clear hokX
        by_cases hkn : k < m
        · obtain ⟨b, o, rfl, hb, hc⟩ := hT.ptr (by omega)
          obtain ⟨e, he⟩ := hT.get hkn
          obtain ⟨c0w, SA, sn, sc, c1w, hss⟩ := hc k e he
          have c0 := (hbw2.cell (p := ⟨b, o + k * 2, none⟩) hb).trans c0w
          have c1 := (hbw2.cell (p := ⟨b, o + k * 2 + 1, none⟩) hb).trans c1w
          have hb' := Nat.lt_of_lt_of_le hb hbw2.size
          clear c0w c1w
          obtain ⟨hsz, hsz2⟩ := htn.out k e he
          have hsl := hss.len
          have HK := Lib.hid (okTi_eq (n := gs.length) he)
          have HF := Lib.hid (freshT_seen he)
          have HS := Lib.hid (seenT_succ he)
          have hssh := Lib.hid hss
          clear he hc hss
          cases hv1 : isNameB e.name
          · go_wp2_with (go_at_call 152; refine (IsName_any _ _ hsz).mono ?_; rintro e _ ⟨rfl, rfl⟩)
            go_ret
            exact ⟨ret_bool (validSetB_ti (k := k) (by omega) (by rw [HK.out, hv1]; rfl)).symm, by exact bel_⟩
          · have hle := isNameB_le hv1
            cases hv3 : freshT ts k
            · have hsn : seenT ts k e.name = true := by rw [HF.out, hv3]; rfl
              go_wp2_with (first
                | (go_at_call 152; refine (IsName_any _ _ hsz).mono ?_; rintro e _ ⟨rfl, rfl⟩)
                | (at_lookup; refine wpList_lookup_names _ (by go_simp) _ _ rfl wx.heap.size k _ rfl (hbm.below (by exact bel_)) e.name (by unfold maxLen; omega) rfl ?_))
              go_ret
              exact ⟨ret_bool (validSetB_ti (k := k) (by omega) (by rw [HK.out, hv1, hv3]; simp)).symm, by exact bel_⟩
            · have hsn : seenT ts k e.name = false := by rw [HF.out, hv3]; rfl
              by_cases h4 : sn = 4
              · have hsl4 : decide (e.sides.length = 4) = true := decide_eq_true (by omega)
                subst h4
                cases hv4 : allB 4 (okSide n e.sides)
                · go_wp2_with (first
                    | (go_at_call 152; refine (IsName_any _ _ hsz).mono ?_; rintro e _ ⟨rfl, rfl⟩)
                    | (at_lookup; refine wpList_lookup_names _ (by go_simp) _ _ rfl wx.heap.size k _ rfl (hbm.below (by exact bel_)) e.name (by unfold maxLen; omega) rfl ?_)
                    | (at_mapUpdate; refine wpList_update_names _ rfl _ _ _ rfl wx.heap.size k _ rfl (hbm.below (by exact bel_)) e.name (by unfold maxLen; omega) (by unfold maxLen; omega) rfl rfl ?_; intro w1 hbm1 hb1 hk1; have q1 := hk1 wr.heap.size 1 (by omega) (by simp)))
                  have z0 : w1.cell? ⟨w.heap.size, 0, none⟩ = some (.slice G n cg) := (hb1.cell (p := ⟨w.heap.size, 0, none⟩) hlts').trans (by go_simp)
                  have z4 : w1.cell? ⟨w.heap.size, 1, none⟩ = some (.slice (some ⟨b, o, none⟩) m ct) := (hb1.cell (p := ⟨w.heap.size, 1, none⟩) hlts').trans (by go_simp)
                  have z1 : w.heap.size < w1.heap.size := by have := hb1.size; simp at this; omega
                  have z2 : Below w.heap.size w w1 := by
                    refine Below.trans ?_ (hb1.mono (by omega))
                    exact bel_
                  have z3 := hssh.out.below RInt.stable z2
                  refine (ContainsFuncI_any _ _ _ _ _ _ _ e.sides _ z0 z1 z3 (by omega)).mono ?_
                  rintro _ w3 ⟨rfl, hb3⟩
                  clear z3
                  go_wp2
                  go_ret
                  exact ⟨ret_bool (validSetB_ti (k := k) (by omega) (by rw [HK.out, hv1, hsl4, hv3, hsl, hlen, hv4]; rfl)).symm, z2.trans (hb3.mono (by omega))⟩
                · go_wp2_with (first
                    | (go_at_call 152; refine (IsName_any _ _ hsz).mono ?_; rintro e _ ⟨rfl, rfl⟩)
                    | (at_lookup; refine wpList_lookup_names _ (by go_simp) _ _ rfl wx.heap.size k _ rfl (hbm.below (by exact bel_)) e.name (by unfold maxLen; omega) rfl ?_)
                    | (at_mapUpdate; refine wpList_update_names _ rfl _ _ _ rfl wx.heap.size k _ rfl (hbm.below (by exact bel_)) e.name (by unfold maxLen; omega) (by unfold maxLen; omega) rfl rfl ?_; intro w1 hbm1 hb1 hk1; have q1 := hk1 wr.heap.size 1 (by omega) (by simp)))
                  have z0 : w1.cell? ⟨w.heap.size, 0, none⟩ = some (.slice G n cg) := (hb1.cell (p := ⟨w.heap.size, 0, none⟩) hlts').trans (by go_simp)
                  have z4 : w1.cell? ⟨w.heap.size, 1, none⟩ = some (.slice (some ⟨b, o, none⟩) m ct) := (hb1.cell (p := ⟨w.heap.size, 1, none⟩) hlts').trans (by go_simp)
                  have z1 : w.heap.size < w1.heap.size := by have := hb1.size; simp at this; omega
                  have z2 : Below w.heap.size w w1 := by
                    refine Below.trans ?_ (hb1.mono (by omega))
                    exact bel_
                  have z3 := hssh.out.below RInt.stable z2
                  refine (ContainsFuncI_any _ _ _ _ _ _ _ e.sides _ z0 z1 z3 (by omega)).mono ?_
                  rintro _ w3 ⟨rfl, hb3⟩
                  clear z3
                  go_wp2
                  go_roundg (m - (k + 1))
                  case measure => omega
                  case rel => exact ⟨k + 1, by omega, by go_num, fun j hj => (by rcases Nat.lt_succ_iff_lt_or_eq.1 hj with hj | rfl; exact hokT.out j hj; rw [HK.out, hv1, hsl4, hv3, hsl, hlen, hv4]; rfl), z2.trans (hb3.mono (by omega)), (hbm1.below hb3).say HS.out, (hb3.cell (p := ⟨w.heap.size, 0, none⟩) z1).trans z0, (hb3.cell (p := ⟨w.heap.size, 1, none⟩) z1).trans z4⟩
              · have hsl4 : decide (e.sides.length = 4) = false := decide_eq_false (by omega)
                have h4' : ((sn : Int) != 4) = true := by simp; omega
                go_wp2_with (first
                  | (go_at_call 152; refine (IsName_any _ _ hsz).mono ?_; rintro e _ ⟨rfl, rfl⟩)
                  | (at_lookup; refine wpList_lookup_names _ (by go_simp) _ _ rfl wx.heap.size k _ rfl (hbm.below (by exact bel_)) e.name (by unfold maxLen; omega) rfl ?_))
                go_ret
                exact ⟨ret_bool (validSetB_ti (k := k) (by omega) (by rw [HK.out, hv1, hsl4]; rfl)).symm, by exact bel_⟩
        · obtain rfl : m = k := by omega
          go_wp2
          go_ret
          exact ⟨ret_bool (validSetB_ok (by omega) (by omega) (by omega) hokG.out (fun j hj => hokT.out j (by omega))).symm, by exact bel_⟩
end Go.Proofs.YtmhgjgclclnmaaaGreat
