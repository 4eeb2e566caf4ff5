/- Walks: the reference's glues and tiles of a machine. -/
import Derived.Test.YtkiamhpapkgboaaDoorMm3
import Derived.Test.YtkiamhpapkgboaaDoorMr3
namespace Go.Proofs.YtkiamhpapkgboaaDoor
open Go.RowKit Go.Shelf
set_option linter.unusedSimpArgs false
set_option linter.unusedVariables false
attribute [local go_sem] BelowBy.cell BelowBy.cell_drew stillUpon givesUpon

theorem cat_at {wd d nm : ByteArray} (h : wd ++ d = nm) (hz : wd.size + d.size ≤ 1000) : ∀ W : World, (Op.stringOp .add wd d).run Tryd.prog W = .ok (.string nm) W := fun W => by
  rw [← h]; exact run_string_add_sum (P := Tryd.prog) (w := W) wd d (by omega)
theorem cat_sz {wd d nm : ByteArray} {a c : Nat} (h : wd ++ d = nm) (h1 : wd.size ≤ a) (h2 : d.size ≤ c) : nm.size ≤ a + c := by
  rw [← h, ByteArray.size_append]; omega
theorem l18Head_n {a b : Nat} {s : ByteArray} (w : World) (h1 : a < 1000) (h2 : b < 1000) (hs : pairN ⟨#[104]⟩ a b = s) :
    Calls Tryd.prog 25 #[.int .i64 (a : Int), .int .i64 (b : Int)] w fun e w' => e = .returned (.string s) ∧ Below w.heap.size w w' := by
  obtain ⟨t, ht⟩ : ∃ t, decN a = t := ⟨_, rfl⟩
  obtain ⟨u, hu⟩ : ∃ u, decN b = u := ⟨_, rfl⟩
  have hzt : t.size ≤ 3 := by rw [← ht]; exact decN_size h1
  have hzu : u.size ≤ 3 := by rw [← hu]; exact decN_size h2
  unfold pairN at hs
  rw [ht, hu] at hs
  obtain ⟨x, hx⟩ : ∃ x, (⟨#[104]⟩ : ByteArray) ++ t = x := ⟨_, rfl⟩
  obtain ⟨y, hy⟩ : ∃ y, x ++ (⟨#[95]⟩ : ByteArray) = y := ⟨_, rfl⟩
  rw [hx, hy] at hs
  have zx := cat_sz (a := 1) hx (by decide) hzt
  have zy := cat_sz (c := 1) hy zx (by decide)
  have q1 := cat_at hx (by have : (⟨#[104]⟩ : ByteArray).size = 1 := rfl; omega)
  have q2 := cat_at hy (by have : (⟨#[95]⟩ : ByteArray).size = 1 := rfl; omega)
  have q3 := cat_at hs (by omega)
  clear hs hx hy zx zy
  go_enter Tryd.func25, Tryd.ntmps25
  go_wp2_with fail
  refine (lDecimal_n _ h1 ht).mono ?_
  rintro e w1 ⟨rfl, hb1⟩
  go_wp2_with fail
  refine (lDecimal_n _ h2 hu).mono ?_
  rintro e w2 ⟨rfl, hb2⟩
  go_wp2
  go_ret
  exact ⟨rfl, hb1.trans (hb2.mono hb1.size)⟩
theorem sglue_cd {b : Nat} {cs : List Cd} {ts : List Ti} {c : Cd} {nm : ByteArray} {s : Int} {w : World} (h : Sk w b (glG cs, ts)) (hn : gnm c = nm) (hs : gst c = s) (hf : numG (glG cs) nm = 0) (hl : (glG cs).length ≤ 1000) :
    Calls Tryd.prog 22 #[.pointer (some ⟨b, 0, none⟩), .string nm, .int .i64 s] w fun e w' => (∃ k : Int, e = .returned (.int .i64 k)) ∧ Sk w' b (glG (cs ++ [c]), ts) ∧ Far SkTs w w' ∧ Below b w w' := by
  refine (sglue_any b (glG cs, ts) nm s w h hf hl).mono ?_
  rintro e w' ⟨he, h1, h2, h3⟩
  rw [addG_cd cs ts c hn hs] at h1
  exact ⟨⟨_, he⟩, h1, h2, h3⟩
theorem stileX_cd {X : Nat → Prop} {b L : Nat} {gs : List Gl} {ts : List Ti} {c : Cd} {nm s0 s1 s2 s3 : ByteArray} {o0 o1 o2 o3 : Option Cd} {w : World} (h : SkX w b (gs, ts) X) (hX : ∀ g, X g → g < w.heap.size) (hn : tnm c = nm) (h0 : (numG gs s0 : Int) = sdO gs o0) (h1 : (numG gs s1 : Int) = sdO gs o1) (h2 : (numG gs s2 : Int) = sdO gs o2) (h3 : (numG gs s3 : Int) = sdO gs o3) (hf : ∀ t ∈ ts, t.name ≠ nm) (hg : gs.length ≤ 1000) (hl : ts.length = L) (hL : L ≤ 1000) :
    Calls Tryd.prog 24 #[.pointer (some ⟨b, 0, none⟩), .string nm, .string s0, .string s1, .string s2, .string s3] w fun e w' => e = .returned (.int .i64 (L : Int)) ∧ SkX w' b (gs, ts ++ [tlG gs c [o0, o1, o2, o3]]) X ∧ Far SkTs w w' ∧ Below b w w' := by
  subst hl
  refine (stileX_any X b (gs, ts) nm s0 s1 s2 s3 w h hX hf hg hL).mono ?_
  rintro e w' ⟨he, k1, k2, k3⟩
  rw [addT_cd gs ts c hn h0 h1 h2 h3] at k1
  exact ⟨he, k1, k2, k3⟩
theorem stile_cd {b : Nat} {gs : List Gl} {ts : List Ti} {c : Cd} {nm s0 s1 s2 s3 : ByteArray} {o0 o1 o2 o3 : Option Cd} {w : World} (h : Sk w b (gs, ts)) (hn : tnm c = nm) (h0 : (numG gs s0 : Int) = sdO gs o0) (h1 : (numG gs s1 : Int) = sdO gs o1) (h2 : (numG gs s2 : Int) = sdO gs o2) (h3 : (numG gs s3 : Int) = sdO gs o3) (hf : ∀ t ∈ ts, t.name ≠ nm) (hg : gs.length ≤ 1000) (hl : ts.length ≤ 1000) :
    Calls Tryd.prog 24 #[.pointer (some ⟨b, 0, none⟩), .string nm, .string s0, .string s1, .string s2, .string s3] w fun e w' => (∃ k : Int, e = .returned (.int .i64 k)) ∧ Sk w' b (gs, ts ++ [tlG gs c [o0, o1, o2, o3]]) ∧ Far SkTs w w' ∧ Below b w w' := by
  refine (stileX_cd (X := fun _ => False) h (fun g hg => hg.elim) hn h0 h1 h2 h3 hf hg rfl hl).mono ?_
  rintro e w' ⟨he, k⟩
  exact ⟨⟨_, he⟩, k⟩
/-- names of tiles by codes -/
def NmL (ts : List Ti) (L : Cd → Prop) : Prop := ∀ t ∈ ts, ∃ c, L c ∧ t.name = tnm c
theorem NmL.mono {ts : List Ti} {L L' : Cd → Prop} (h : NmL ts L) (hL : ∀ c, L c → L' c) : NmL ts L' := fun t ht => by
  obtain ⟨c, h1, h2⟩ := h t ht
  exact ⟨c, hL c h1, h2⟩
theorem NmL.app {ts us : List Ti} {L : Cd → Prop} (h : NmL ts L) (k : NmL us L) : NmL (ts ++ us) L := fun t ht => by
  rcases List.mem_append.1 ht with h1 | h1
  · exact h t h1
  · exact k t h1
theorem NmL.one {gs : List Gl} {c : Cd} {l : List (Option Cd)} {L : Cd → Prop} (h : L c) : NmL [tlG gs c l] L := fun t ht => by
  simp only [List.mem_cons, List.not_mem_nil, or_false] at ht
  subst ht
  exact ⟨c, h, rfl⟩
theorem NmL.fresh {ts : List Ti} {L : Cd → Prop} {d : Cd} {nm : ByteArray} (h : NmL ts L) (hL : ∀ c, L c → c ∈ tU ∧ c ≠ d) (hd : d ∈ tU) (hn : tnm d = nm) : ∀ t ∈ ts, t.name ≠ nm := fun t ht he => by
  obtain ⟨c, h1, h2⟩ := h t ht
  exact (hL c h1).2 (tnm_inj (hL c h1).1 hd (by rw [← h2, he, hn]))
theorem new_apart {ms : List Mvm} {k : Nat} {v : Mvm} (hnew : allB ms.length (newM ms) = true) (hv : ms[k]? = some v) : ∀ (j : Nat) (e : Mvm), j < k → ms[j]? = some e → ¬ (e.s = v.s ∧ e.r = v.r) := by
  intro j e hj he hh
  have hn := allB_all hnew k (List.getElem?_eq_some_iff.1 hv).1
  rw [newM_eq hv] at hn
  simp only [decide_eq_true_eq] at hn
  obtain ⟨i, hi, _, e2, he2, _, _, hmin⟩ := findM_at hv
  unfold findI at hn
  rw [hi] at hn
  simp only at hn
  have : i = k := by omega
  subst this
  exact hmin j e hj he hh
theorem nm_tMs {gs : List Gl} {ms : List Mvm} {Q S k : Nat} {v : Mvm} (hok : ∀ v ∈ ms, OkMv Q S v) (hnew : allB ms.length (newM ms) = true) (hv : ms[k]? = some v) : NmL (tMs gs (ms.take k)) (fun c => c.1 = 0 ∧ c.2.1 < Q ∧ c.2.2 < S ∧ ¬ (c.2.1 = v.s.toNat ∧ c.2.2 = v.r.toNat)) := by
  intro t ht
  obtain ⟨e, he, rfl⟩ := List.mem_map.1 ht
  obtain ⟨j, hj, hje⟩ := List.mem_iff_getElem.1 he
  rw [List.length_take] at hj
  rw [List.getElem_take] at hje
  have hjs : ms[j]? = some e := by rw [List.getElem?_eq_getElem (by omega), hje]
  have ho := hok e (List.mem_of_getElem? hjs)
  have hov := hok v (List.mem_of_getElem? hv)
  have hap := new_apart hnew hv j e (by omega) hjs
  refine ⟨(0, e.s.toNat, e.r.toNat), ⟨rfl, ?_, ?_, ?_⟩, rfl⟩
  · have := ho.s; simp only; omega
  · have := ho.r; simp only; omega
  · rintro ⟨h1, h2⟩
    simp only at h1 h2
    exact hap ⟨by have := ho.s; have := hov.s; omega, by have := ho.r; have := hov.r; omega⟩
theorem nm_tMs_all {gs : List Gl} {ms : List Mvm} {Q S : Nat} (hok : ∀ v ∈ ms, OkMv Q S v) : NmL (tMs gs ms) (fun c => c.1 = 0 ∧ c.2.1 < Q ∧ c.2.2 < S) := by
  intro t ht
  obtain ⟨e, he, rfl⟩ := List.mem_map.1 ht
  have ho := hok e he
  exact ⟨(0, e.s.toNat, e.r.toNat), ⟨rfl, by have := ho.s; simp only; omega, by have := ho.r; simp only; omega⟩, rfl⟩
theorem nm_tIn {gs : List Gl} {q : Nat} : ∀ i, NmL (tIn gs q i) (fun c => (c.1 = 1 ∨ c.1 = 2) ∧ c.2.1 = q ∧ c.2.2 < i)
  | 0 => fun t ht => by cases ht
  | i + 1 => by
    have ih := (nm_tIn (gs := gs) (q := q) i).mono (L' := fun c => (c.1 = 1 ∨ c.1 = 2) ∧ c.2.1 = q ∧ c.2.2 < i + 1) (fun c h => ⟨h.1, h.2.1, by omega⟩)
    exact (ih.app (NmL.one (by simp))).app (NmL.one (by simp))
theorem nm_tIa {gs : List Gl} {S : Nat} : ∀ q, NmL (tIa gs S q) (fun c => (c.1 = 1 ∨ c.1 = 2) ∧ c.2.1 < q ∧ c.2.2 < S)
  | 0 => fun t ht => by cases ht
  | q + 1 => by
    have ih := (nm_tIa (gs := gs) (S := S) q).mono (L' := fun c => (c.1 = 1 ∨ c.1 = 2) ∧ c.2.1 < q + 1 ∧ c.2.2 < S) (fun c h => ⟨h.1, by omega, h.2.2⟩)
    exact ih.app ((nm_tIn S).mono fun c h => ⟨h.1, by omega, h.2.2⟩)
theorem nm_tEW {gs : List Gl} : ∀ i, NmL (tEW gs i) (fun c => (c.1 = 3 ∨ c.1 = 4) ∧ c.2.1 < i ∧ c.2.2 = 0)
  | 0 => fun t ht => by cases ht
  | i + 1 => by
    have ih := (nm_tEW (gs := gs) i).mono (L' := fun c => (c.1 = 3 ∨ c.1 = 4) ∧ c.2.1 < i + 1 ∧ c.2.2 = 0) (fun c h => ⟨h.1, by omega, h.2.2⟩)
    exact (ih.app (NmL.one (by simp))).app (NmL.one (by simp))
set_option maxRecDepth 100000 in
set_option maxHeartbeats 8000000 in
theorem moves_any (b p Q S n c : Nat) (A : Option Addr) (ms : List Mvm) (w : World) (h : Sk w b ([], [])) (hp : p < b) (c0 : w.cell? ⟨p, 0, none⟩ = some (.int .i64 (Q : Int))) (c1 : w.cell? ⟨p, 1, none⟩ = some (.int .i64 (S : Int))) (c2 : w.cell? ⟨p, 2, none⟩ = some (.slice A n c)) (hA : ∀ w', Below b w w' → RdSl 5 RMv w' A n ms) (hok : ∀ v ∈ ms, OkMv Q S v) (hnew : allB ms.length (newM ms) = true) (hQ : Q ≤ 5) (hS : S ≤ 4) (hn : n ≤ 20) :
    Calls Tryd.prog 21 #[.pointer (some ⟨b, 0, none⟩), .pointer (some ⟨p, 0, none⟩)] w fun e w' => e = .returned (.tuple #[]) ∧ Sk w' b (glG (cG Q S), tAll (glG (cG Q S)) Q S ms) ∧ Far SkTs w w' ∧ Below b w w' := by
  have hlt := h.lt
  have hml := Lib.hid (hA w (Below.refl _ _)).len
  have hAH := Lib.hid hA
  have hokH := Lib.hid hok
  have hnewH := Lib.hid hnew
  have hH := Lib.hid h
  clear h hA hok hnew
  go_enter Tryd.func21, Tryd.ntmps21
  go_wp2
  go_loopg [4] S (fun g i wr => ∃ (k : Nat), k + g = S ∧ i = .int .i64 (k : Int) ∧ Hid (Sk wr b (glG (cA k), [])) ∧ Hid (Far SkTs w wr) ∧ Hid (Below b w wr))
  case atStart => exact ⟨0, by omega, rfl, hH, Lib.hid (Far.refl _ _), Lib.hid (Below.refl _ _)⟩
  case round =>
    obtain ⟨k, hk, rfl, hM, hfar, hbw⟩ := hrel
    have hszl := hbw.out.size
    have p0 := (hbw.out.cell (p := ⟨p, 0, none⟩) hp).trans c0
    have p1 := (hbw.out.cell (p := ⟨p, 1, none⟩) hp).trans c1
    have p2 := (hbw.out.cell (p := ⟨p, 2, none⟩) hp).trans c2
    have lp : p < wr.heap.size := by omega
    by_cases hkn : k < S
    · have jb : Below wr.heap.size wr wr := bl_refl wr
      obtain ⟨dk, hdk⟩ : ∃ s, decN k = s := ⟨_, rfl⟩
      have zdk : dk.size ≤ 3 := by rw [← hdk]; exact decN_size (by omega)
      have hdkH := Lib.hid hdk
      obtain ⟨nm, hnm⟩ : ∃ s : ByteArray, (⟨#[97]⟩ : ByteArray) ++ dk = s := ⟨_, rfl⟩
      have znm : nm.size ≤ 1 + 3 := cat_sz hnm (by first | assumption | decide) (by first | assumption | decide)
      have qnm := cat_at hnm (Nat.le_trans (Nat.add_le_add (show ByteArray.size _ ≤ 1 by first | assumption | decide) (show ByteArray.size _ ≤ 3 by first | assumption | decide)) (by decide))
      have hgnH := Lib.hid (show gnm (0, k, 0) = nm by rw [← hnm, ← hdk]; rfl)
      clear hnm hdk
      have hfrH := Lib.hid (show numG (glG (cA k)) nm = 0 by
        rw [← hgnH.out]
        exact fresh_g (fun d hd => in_gU (by simp only [List.mem_append, List.mem_cons, List.not_mem_nil, mem_cA, mem_cM, mem_cH, mem_cB, mem_cZ, Prod.ext_iff] at hd; omega)) (in_gU (by simp <;> omega)) (by simp only [List.mem_append, List.mem_cons, List.not_mem_nil, mem_cA, mem_cM, mem_cH, mem_cB, mem_cZ, Prod.ext_iff]; omega))
      have hlenH := Lib.hid (show (glG (cA k)).length ≤ 1000 by
        rw [glG_len]; simp only [List.length_append, List.length_cons, List.length_nil, len_cA, len_cM, len_cH, len_cB, len_cZ]; omega)
      go_wp2_with fail
      refine (lDecimal_n (u := k) _ (by omega) hdkH.out).mono ?_
      rintro e w5 ⟨rfl, hb⟩
      replace jb := jb.trans (hb.mono jb.size)
      clear hb
      go_wp2_with fail
      refine (sglue_cd (cs := cA k) (c := (0, k, 0)) (hM.out.below jb) hgnH.out (by simp [gst]) hfrH.out hlenH.out).mono ?_
      rintro e w6 ⟨⟨kk, rfl⟩, hM6, hF6, hB6⟩
      have hM7 := Lib.hid hM6
      have hfar7 := Lib.hid ((hfar.out.trans (Far.of_below jb)).trans hF6)
      have bw7 := Lib.hid ((hbw.out.trans (jb.mono (show b ≤ wr.heap.size by omega))).trans hB6)
      clear hM6 hF6 hB6 jb hM hfar hbw p0 p1 p2 lp hszl hgnH hfrH hlenH
      go_wp2
      go_roundg (S - (k + 1))
      case measure => omega
      case rel => exact ⟨k + 1, by omega, by go_num, by rw [cA_succ]; exact hM7, hfar7, bw7⟩
    · obtain rfl : k = S := by omega
      go_wp2
      go_loopg [5] Q (fun g i wr => ∃ (q : Nat), q + g = Q ∧ i = .int .i64 (q : Int) ∧ Hid (Sk wr b (glG (cA k ++ cM k q), [])) ∧ Hid (Far SkTs w wr) ∧ Hid (Below b w wr))
      case atStart => exact ⟨0, by omega, rfl, by simp only [cM, List.append_nil]; exact hM, hfar, hbw⟩
      case round =>
        clear hM hfar hbw hszl p0 p1 p2 lp
        obtain ⟨q, hq, rfl, hM, hfar, hbw⟩ := hrel
        have hszl := hbw.out.size
        have p0 := (hbw.out.cell (p := ⟨p, 0, none⟩) hp).trans c0
        have p1 := (hbw.out.cell (p := ⟨p, 1, none⟩) hp).trans c1
        have p2 := (hbw.out.cell (p := ⟨p, 2, none⟩) hp).trans c2
        have lp : p < wr.heap.size := by omega
        by_cases hqn : q < Q
        · have hmul : q * (k + 1) ≤ 5 * 5 := Nat.mul_le_mul (by omega) (by omega)
          have jb : Below wr.heap.size wr wr := bl_refl wr
          obtain ⟨dq, hdq⟩ : ∃ s, decN q = s := ⟨_, rfl⟩
          have zdq : dq.size ≤ 3 := by rw [← hdq]; exact decN_size (by omega)
          have hdqH := Lib.hid hdq
          obtain ⟨nm, hnm⟩ : ∃ s : ByteArray, (⟨#[109]⟩ : ByteArray) ++ dq = s := ⟨_, rfl⟩
          have znm : nm.size ≤ 1 + 3 := cat_sz hnm (by first | assumption | decide) (by first | assumption | decide)
          have qnm := cat_at hnm (Nat.le_trans (Nat.add_le_add (show ByteArray.size _ ≤ 1 by first | assumption | decide) (show ByteArray.size _ ≤ 3 by first | assumption | decide)) (by decide))
          have hgnH := Lib.hid (show gnm (1, q, 0) = nm by rw [← hnm, ← hdq]; rfl)
          clear hnm hdq
          have hfrH := Lib.hid (show numG (glG (cA k ++ cM k q)) nm = 0 by
            rw [← hgnH.out]
            exact fresh_g (fun d hd => in_gU (by simp only [List.mem_append, List.mem_cons, List.not_mem_nil, mem_cA, mem_cM, mem_cH, mem_cB, mem_cZ, Prod.ext_iff] at hd; omega)) (in_gU (by simp <;> omega)) (by simp only [List.mem_append, List.mem_cons, List.not_mem_nil, mem_cA, mem_cM, mem_cH, mem_cB, mem_cZ, Prod.ext_iff]; omega))
          have hlenH := Lib.hid (show (glG (cA k ++ cM k q)).length ≤ 1000 by
            rw [glG_len]; simp only [List.length_append, List.length_cons, List.length_nil, len_cA, len_cM, len_cH, len_cB, len_cZ]; omega)
          go_wp2_with fail
          refine (lDecimal_n (u := q) _ (by omega) hdqH.out).mono ?_
          rintro e w5 ⟨rfl, hb⟩
          replace jb := jb.trans (hb.mono jb.size)
          clear hb
          go_wp2_with fail
          refine (sglue_cd (cs := cA k ++ cM k q) (c := (1, q, 0)) (hM.out.below jb) hgnH.out (by simp [gst]) hfrH.out hlenH.out).mono ?_
          rintro e w6 ⟨⟨kk, rfl⟩, hM6, hF6, hB6⟩
          have hM7 := Lib.hid hM6
          have hfar7 := Lib.hid ((hfar.out.trans (Far.of_below jb)).trans hF6)
          have bw7 := Lib.hid ((hbw.out.trans (jb.mono (show b ≤ wr.heap.size by omega))).trans hB6)
          clear hM6 hF6 hB6 jb hM hfar hbw p0 p1 p2 lp hszl hgnH hfrH hlenH
          go_wp2
          go_loopg [6] k (fun g i wr => ∃ (i0 : Nat), i0 + g = k ∧ i = .int .i64 (i0 : Int) ∧ Hid (Sk wr b (glG (cA k ++ cM k q ++ (1, q, 0) :: cH q i0), [])) ∧ Hid (Far SkTs w wr) ∧ Hid (Below b w wr))
          case atStart => exact ⟨0, by omega, rfl, hM7, hfar7, bw7⟩
          case round =>
            clear hM7 hfar7 bw7
            obtain ⟨i0, hi0, rfl, hM, hfar, hbw⟩ := hrel
            have hszl := hbw.out.size
            have p0 := (hbw.out.cell (p := ⟨p, 0, none⟩) hp).trans c0
            have p1 := (hbw.out.cell (p := ⟨p, 1, none⟩) hp).trans c1
            have p2 := (hbw.out.cell (p := ⟨p, 2, none⟩) hp).trans c2
            have lp : p < wr.heap.size := by omega
            by_cases hin : i0 < k
            · have jb : Below wr.heap.size wr wr := bl_refl wr
              obtain ⟨nm, hnm⟩ : ∃ s, pairN ⟨#[104]⟩ q i0 = s := ⟨_, rfl⟩
              have hgnH := Lib.hid (show gnm (2, q, i0) = nm by rw [← hnm]; rfl)
              have hnmH := Lib.hid hnm
              clear hnm
              have hfrH := Lib.hid (show numG (glG (cA k ++ cM k q ++ (1, q, 0) :: cH q i0)) nm = 0 by
                rw [← hgnH.out]
                exact fresh_g (fun d hd => in_gU (by simp only [List.mem_append, List.mem_cons, List.not_mem_nil, mem_cA, mem_cM, mem_cH, mem_cB, mem_cZ, Prod.ext_iff] at hd; omega)) (in_gU (by simp <;> omega)) (by simp only [List.mem_append, List.mem_cons, List.not_mem_nil, mem_cA, mem_cM, mem_cH, mem_cB, mem_cZ, Prod.ext_iff]; omega))
              have hlenH := Lib.hid (show (glG (cA k ++ cM k q ++ (1, q, 0) :: cH q i0)).length ≤ 1000 by
                rw [glG_len]; simp only [List.length_append, List.length_cons, List.length_nil, len_cA, len_cM, len_cH, len_cB, len_cZ]; omega)
              go_wp2_with fail
              refine (l18Head_n (a := q) (b := i0) _ (by omega) (by omega) hnmH.out).mono ?_
              rintro e w5 ⟨rfl, hb⟩
              replace jb := jb.trans (hb.mono jb.size)
              clear hb
              go_wp2_with fail
              refine (sglue_cd (cs := cA k ++ cM k q ++ (1, q, 0) :: cH q i0) (c := (2, q, i0)) (hM.out.below jb) hgnH.out (by simp [gst]) hfrH.out hlenH.out).mono ?_
              rintro e w6 ⟨⟨kk, rfl⟩, hM6, hF6, hB6⟩
              have hM7 := Lib.hid hM6
              have hfar7 := Lib.hid ((hfar.out.trans (Far.of_below jb)).trans hF6)
              have bw7 := Lib.hid ((hbw.out.trans (jb.mono (show b ≤ wr.heap.size by omega))).trans hB6)
              clear hM6 hF6 hB6 jb hM hfar hbw p0 p1 p2 lp hszl hgnH hfrH hlenH
              go_wp2
              go_roundg (k - (i0 + 1))
              case measure => omega
              case rel => exact ⟨i0 + 1, by omega, by go_num, by rw [cH_succ, ← List.cons_append, ← List.append_assoc]; exact hM7, hfar7, bw7⟩
            · obtain rfl : i0 = k := by omega
              go_wp2
              go_roundg (Q - (q + 1))
              case measure => omega
              case rel => exact ⟨q + 1, by omega, by go_num, by rw [cM, ← List.append_assoc]; exact hM, hfar, hbw⟩
        · obtain rfl : q = Q := by omega
          have hmul : q * (k + 1) ≤ 5 * 5 := Nat.mul_le_mul (by omega) (by omega)
          replace hM : Hid (Sk wr b (glG (cA k ++ cM k q ++ cB 0), [])) := Lib.hid (by rw [show cB 0 = [] from rfl, List.append_nil]; exact hM.out)
          have jb : Below wr.heap.size wr wr := bl_refl wr
          obtain ⟨nm, hnm⟩ : ∃ nm : ByteArray, ⟨#[108]⟩ = nm := ⟨_, rfl⟩
          have hgnH := Lib.hid (show gnm (3 + 0, 0, 0) = ⟨#[108]⟩ from rfl)
          rw [hnm] at hgnH
          have hfrH := Lib.hid (show numG (glG (cA k ++ cM k q ++ cB 0)) nm = 0 by
            rw [← hgnH.out]
            exact fresh_g (fun d hd => in_gU (by simp only [List.mem_append, List.mem_cons, List.not_mem_nil, mem_cA, mem_cM, mem_cH, mem_cB, mem_cZ, Prod.ext_iff] at hd; omega)) (in_gU (by simp <;> omega)) (by simp only [List.mem_append, List.mem_cons, List.not_mem_nil, mem_cA, mem_cM, mem_cH, mem_cB, mem_cZ, Prod.ext_iff]; omega))
          have hlenH := Lib.hid (show (glG (cA k ++ cM k q ++ cB 0)).length ≤ 1000 by
            rw [glG_len]; simp only [List.length_append, List.length_cons, List.length_nil, len_cA, len_cM, len_cH, len_cB, len_cZ]; omega)
          rw [← hnm] at hgnH hfrH
          clear hnm
          go_wp2_with fail
          refine (sglue_cd (cs := cA k ++ cM k q ++ cB 0) (c := (3 + 0, 0, 0)) (hM.out.below jb) hgnH.out (by simp [gst]) hfrH.out hlenH.out).mono ?_
          rintro e w6 ⟨⟨kk, rfl⟩, hM6, hF6, hB6⟩
          have hM7 := Lib.hid hM6
          have hfar7 := Lib.hid ((hfar.out.trans (Far.of_below jb)).trans hF6)
          have bw7 := Lib.hid ((hbw.out.trans (jb.mono (show b ≤ wr.heap.size by omega))).trans hB6)
          clear hM6 hF6 hB6 jb hM hfar hbw p0 p1 p2 lp hszl hgnH hfrH hlenH
          obtain ⟨wr, hwr⟩ : ∃ x : World, x = w6 := ⟨_, rfl⟩
          subst hwr
          have hM := hM7
          have hfar := hfar7
          have hbw := bw7
          clear hM7 hfar7 bw7
          have hszl := hbw.out.size
          have p0 := (hbw.out.cell (p := ⟨p, 0, none⟩) hp).trans c0
          have p1 := (hbw.out.cell (p := ⟨p, 1, none⟩) hp).trans c1
          have p2 := (hbw.out.cell (p := ⟨p, 2, none⟩) hp).trans c2
          have lp : p < wr.heap.size := by omega
          replace hM : Hid (Sk wr b (glG (cA k ++ cM k q ++ cB (0 + 1)), [])) := Lib.hid (by rw [cB_succ, ← List.append_assoc]; exact hM.out)
          have jb : Below wr.heap.size wr wr := bl_refl wr
          obtain ⟨nm, hnm⟩ : ∃ nm : ByteArray, ⟨#[114]⟩ = nm := ⟨_, rfl⟩
          have hgnH := Lib.hid (show gnm (3 + 1, 0, 0) = ⟨#[114]⟩ from rfl)
          rw [hnm] at hgnH
          have hfrH := Lib.hid (show numG (glG (cA k ++ cM k q ++ cB 1)) nm = 0 by
            rw [← hgnH.out]
            exact fresh_g (fun d hd => in_gU (by simp only [List.mem_append, List.mem_cons, List.not_mem_nil, mem_cA, mem_cM, mem_cH, mem_cB, mem_cZ, Prod.ext_iff] at hd; omega)) (in_gU (by simp <;> omega)) (by simp only [List.mem_append, List.mem_cons, List.not_mem_nil, mem_cA, mem_cM, mem_cH, mem_cB, mem_cZ, Prod.ext_iff]; omega))
          have hlenH := Lib.hid (show (glG (cA k ++ cM k q ++ cB 1)).length ≤ 1000 by
            rw [glG_len]; simp only [List.length_append, List.length_cons, List.length_nil, len_cA, len_cM, len_cH, len_cB, len_cZ]; omega)
          rw [← hnm] at hgnH hfrH
          clear hnm
          go_wp2_with fail
          refine (sglue_cd (cs := cA k ++ cM k q ++ cB 1) (c := (3 + 1, 0, 0)) (hM.out.below jb) hgnH.out (by simp [gst]) hfrH.out hlenH.out).mono ?_
          rintro e w6 ⟨⟨kk, rfl⟩, hM6, hF6, hB6⟩
          have hM7 := Lib.hid hM6
          have hfar7 := Lib.hid ((hfar.out.trans (Far.of_below jb)).trans hF6)
          have bw7 := Lib.hid ((hbw.out.trans (jb.mono (show b ≤ wr.heap.size by omega))).trans hB6)
          clear hM6 hF6 hB6 jb hM hfar hbw p0 p1 p2 lp hszl hgnH hfrH hlenH
          obtain ⟨wr, hwr⟩ : ∃ x : World, x = w6 := ⟨_, rfl⟩
          subst hwr
          have hM := hM7
          have hfar := hfar7
          have hbw := bw7
          clear hM7 hfar7 bw7
          have hszl := hbw.out.size
          have p0 := (hbw.out.cell (p := ⟨p, 0, none⟩) hp).trans c0
          have p1 := (hbw.out.cell (p := ⟨p, 1, none⟩) hp).trans c1
          have p2 := (hbw.out.cell (p := ⟨p, 2, none⟩) hp).trans c2
          have lp : p < wr.heap.size := by omega
          replace hM : Hid (Sk wr b (glG (cA k ++ cM k q ++ cB (1 + 1)), [])) := Lib.hid (by rw [cB_succ, ← List.append_assoc]; exact hM.out)
          have jb : Below wr.heap.size wr wr := bl_refl wr
          obtain ⟨nm, hnm⟩ : ∃ nm : ByteArray, ⟨#[98, 108]⟩ = nm := ⟨_, rfl⟩
          have hgnH := Lib.hid (show gnm (3 + 2, 0, 0) = ⟨#[98, 108]⟩ from rfl)
          rw [hnm] at hgnH
          have hfrH := Lib.hid (show numG (glG (cA k ++ cM k q ++ cB 2)) nm = 0 by
            rw [← hgnH.out]
            exact fresh_g (fun d hd => in_gU (by simp only [List.mem_append, List.mem_cons, List.not_mem_nil, mem_cA, mem_cM, mem_cH, mem_cB, mem_cZ, Prod.ext_iff] at hd; omega)) (in_gU (by simp <;> omega)) (by simp only [List.mem_append, List.mem_cons, List.not_mem_nil, mem_cA, mem_cM, mem_cH, mem_cB, mem_cZ, Prod.ext_iff]; omega))
          have hlenH := Lib.hid (show (glG (cA k ++ cM k q ++ cB 2)).length ≤ 1000 by
            rw [glG_len]; simp only [List.length_append, List.length_cons, List.length_nil, len_cA, len_cM, len_cH, len_cB, len_cZ]; omega)
          rw [← hnm] at hgnH hfrH
          clear hnm
          go_wp2_with fail
          refine (sglue_cd (cs := cA k ++ cM k q ++ cB 2) (c := (3 + 2, 0, 0)) (hM.out.below jb) hgnH.out (by simp [gst]) hfrH.out hlenH.out).mono ?_
          rintro e w6 ⟨⟨kk, rfl⟩, hM6, hF6, hB6⟩
          have hM7 := Lib.hid hM6
          have hfar7 := Lib.hid ((hfar.out.trans (Far.of_below jb)).trans hF6)
          have bw7 := Lib.hid ((hbw.out.trans (jb.mono (show b ≤ wr.heap.size by omega))).trans hB6)
          clear hM6 hF6 hB6 jb hM hfar hbw p0 p1 p2 lp hszl hgnH hfrH hlenH
          obtain ⟨wr, hwr⟩ : ∃ x : World, x = w6 := ⟨_, rfl⟩
          subst hwr
          have hM := hM7
          have hfar := hfar7
          have hbw := bw7
          clear hM7 hfar7 bw7
          have hszl := hbw.out.size
          have p0 := (hbw.out.cell (p := ⟨p, 0, none⟩) hp).trans c0
          have p1 := (hbw.out.cell (p := ⟨p, 1, none⟩) hp).trans c1
          have p2 := (hbw.out.cell (p := ⟨p, 2, none⟩) hp).trans c2
          have lp : p < wr.heap.size := by omega
          replace hM : Hid (Sk wr b (glG (cA k ++ cM k q ++ cB (2 + 1)), [])) := Lib.hid (by rw [cB_succ, ← List.append_assoc]; exact hM.out)
          have jb : Below wr.heap.size wr wr := bl_refl wr
          obtain ⟨nm, hnm⟩ : ∃ nm : ByteArray, ⟨#[98, 114]⟩ = nm := ⟨_, rfl⟩
          have hgnH := Lib.hid (show gnm (3 + 3, 0, 0) = ⟨#[98, 114]⟩ from rfl)
          rw [hnm] at hgnH
          have hfrH := Lib.hid (show numG (glG (cA k ++ cM k q ++ cB 3)) nm = 0 by
            rw [← hgnH.out]
            exact fresh_g (fun d hd => in_gU (by simp only [List.mem_append, List.mem_cons, List.not_mem_nil, mem_cA, mem_cM, mem_cH, mem_cB, mem_cZ, Prod.ext_iff] at hd; omega)) (in_gU (by simp <;> omega)) (by simp only [List.mem_append, List.mem_cons, List.not_mem_nil, mem_cA, mem_cM, mem_cH, mem_cB, mem_cZ, Prod.ext_iff]; omega))
          have hlenH := Lib.hid (show (glG (cA k ++ cM k q ++ cB 3)).length ≤ 1000 by
            rw [glG_len]; simp only [List.length_append, List.length_cons, List.length_nil, len_cA, len_cM, len_cH, len_cB, len_cZ]; omega)
          rw [← hnm] at hgnH hfrH
          clear hnm
          go_wp2_with fail
          refine (sglue_cd (cs := cA k ++ cM k q ++ cB 3) (c := (3 + 3, 0, 0)) (hM.out.below jb) hgnH.out (by simp [gst]) hfrH.out hlenH.out).mono ?_
          rintro e w6 ⟨⟨kk, rfl⟩, hM6, hF6, hB6⟩
          have hM7 := Lib.hid hM6
          have hfar7 := Lib.hid ((hfar.out.trans (Far.of_below jb)).trans hF6)
          have bw7 := Lib.hid ((hbw.out.trans (jb.mono (show b ≤ wr.heap.size by omega))).trans hB6)
          clear hM6 hF6 hB6 jb hM hfar hbw p0 p1 p2 lp hszl hgnH hfrH hlenH
          obtain ⟨wr, hwr⟩ : ∃ x : World, x = w6 := ⟨_, rfl⟩
          subst hwr
          have hM := hM7
          have hfar := hfar7
          have hbw := bw7
          clear hM7 hfar7 bw7
          have hszl := hbw.out.size
          have p0 := (hbw.out.cell (p := ⟨p, 0, none⟩) hp).trans c0
          have p1 := (hbw.out.cell (p := ⟨p, 1, none⟩) hp).trans c1
          have p2 := (hbw.out.cell (p := ⟨p, 2, none⟩) hp).trans c2
          have lp : p < wr.heap.size := by omega
          replace hM : Hid (Sk wr b (glG (cA k ++ cM k q ++ cB (3 + 1)), [])) := Lib.hid (by rw [cB_succ, ← List.append_assoc]; exact hM.out)
          have hgs0 : cA k ++ cM k q ++ cB (3 + 1) = cG q k := rfl
          rw [hgs0] at hM
          obtain ⟨gs, hgs⟩ : ∃ gs, glG (cG q k) = gs := ⟨_, rfl⟩
          have hgl : gs.length ≤ 1000 := by rw [← hgs, glG_len]; simp only [cG, List.length_append, len_cA, len_cM, len_cB]; omega
          have hem := Lib.hid (show numG gs ⟨#[]⟩ = 0 by rw [← hgs]; exact (num_dash (fun d hd => cR_gU hQ hS (n := 0) (by decide) d (List.mem_append.2 (.inl hd)))).2)
          rw [hgs] at hM
          have hgsH := Lib.hid hgs
          have hmul2 : q * (2 * k) ≤ 5 * 8 := Nat.mul_le_mul (by omega) (by omega)
          clear hgs hgs0
          go_wp2
          have kl := Lib.hid (NmG.of (c := (3, 0, 0)) (s := ⟨#[108]⟩) (in_gU (by simp)) rfl)
          have kr := Lib.hid (NmG.of (c := (4, 0, 0)) (s := ⟨#[114]⟩) (in_gU (by simp)) rfl)
          have kbl := Lib.hid (NmG.of (c := (5, 0, 0)) (s := ⟨#[98, 108]⟩) (in_gU (by simp)) rfl)
          have kbr := Lib.hid (NmG.of (c := (6, 0, 0)) (s := ⟨#[98, 114]⟩) (in_gU (by simp)) rfl)
          go_loopg [7] n (fun g i wr => ∃ (j : Nat), j + g = n ∧ i = .int .i64 (j : Int) ∧ Hid (Sk wr b (gs, tMs gs (ms.take j))) ∧ Hid (Far SkTs w wr) ∧ Hid (Below b w wr))
          case atStart => exact ⟨0, by omega, rfl, hM, hfar, hbw⟩
          case round =>
            clear hM hfar hbw hszl p0 p1 p2 lp
            obtain ⟨j, hj, rfl, hM, hfar, hbw⟩ := hrel
            have hszl := hbw.out.size
            have p0 := (hbw.out.cell (p := ⟨p, 0, none⟩) hp).trans c0
            have p1 := (hbw.out.cell (p := ⟨p, 1, none⟩) hp).trans c1
            have p2 := (hbw.out.cell (p := ⟨p, 2, none⟩) hp).trans c2
            have lp : p < wr.heap.size := by omega
            by_cases hjn : j < n
            · have hA1 := hAH.out wr hbw.out
              obtain ⟨bb, o, rfl, hbb, hc⟩ := hA1.ptr (by omega)
              obtain ⟨v, hv⟩ := hA1.get hjn
              obtain ⟨e0, e1, e2, e3, e4⟩ := hc j v hv
              have hov := hokH.out v (List.mem_of_getElem? hv)
              have htk := Lib.hid (show ms.take (j + 1) = ms.take j ++ [v] by rw [List.take_add_one, hv]; rfl)
              have hNm := Lib.hid (nm_tMs (gs := gs) hokH.out hnewH.out hv)
              obtain ⟨vs, vr, vw, vd, vn⟩ := v
              have o1 := hov.s
              have o2 := hov.r
              have o3 := hov.w
              have o4 := hov.n
              have o5 := Lib.hid hov.d
              simp only at e0 e1 e2 e3 e4 o1 o2 o3 o4
              obtain ⟨xs, rfl⟩ : ∃ x : Nat, vs = (x : Int) := ⟨vs.toNat, by omega⟩
              obtain ⟨xr, rfl⟩ : ∃ x : Nat, vr = (x : Int) := ⟨vr.toNat, by omega⟩
              obtain ⟨xw, rfl⟩ : ∃ x : Nat, vw = (x : Int) := ⟨vw.toNat, by omega⟩
              obtain ⟨xn, rfl⟩ : ∃ x : Nat, vn = (x : Int) := ⟨vn.toNat, by omega⟩
              clear hc hv hA1 hov
              obtain ⟨ds, hds⟩ : ∃ s, decN xs = s := ⟨_, rfl⟩
              have zds : ds.size ≤ 3 := by rw [← hds]; exact decN_size (by omega)
              have hdsH := Lib.hid hds
              obtain ⟨dr, hdr⟩ : ∃ s, decN xr = s := ⟨_, rfl⟩
              have zdr : dr.size ≤ 3 := by rw [← hdr]; exact decN_size (by omega)
              have hdrH := Lib.hid hdr
              obtain ⟨dw, hdw⟩ : ∃ s, decN xw = s := ⟨_, rfl⟩
              have zdw : dw.size ≤ 3 := by rw [← hdw]; exact decN_size (by omega)
              have hdwH := Lib.hid hdw
              obtain ⟨dn, hdn⟩ : ∃ s, decN xn = s := ⟨_, rfl⟩
              have zdn : dn.size ≤ 3 := by rw [← hdn]; exact decN_size (by omega)
              have hdnH := Lib.hid hdn
              obtain ⟨n1, hn1⟩ : ∃ s : ByteArray, (⟨#[100, 111]⟩ : ByteArray) ++ ds = s := ⟨_, rfl⟩
              have zn1 : n1.size ≤ 2 + 3 := cat_sz hn1 (by first | assumption | decide) (by first | assumption | decide)
              have qn1 := cat_at hn1 (Nat.le_trans (Nat.add_le_add (show ByteArray.size _ ≤ 2 by first | assumption | decide) (show ByteArray.size _ ≤ 3 by first | assumption | decide)) (by decide))
              obtain ⟨n2, hn2⟩ : ∃ s : ByteArray, n1 ++ (⟨#[95]⟩ : ByteArray) = s := ⟨_, rfl⟩
              have zn2 : n2.size ≤ 5 + 1 := cat_sz hn2 (by first | assumption | decide) (by first | assumption | decide)
              have qn2 := cat_at hn2 (Nat.le_trans (Nat.add_le_add (show ByteArray.size _ ≤ 5 by first | assumption | decide) (show ByteArray.size _ ≤ 1 by first | assumption | decide)) (by decide))
              obtain ⟨nm, hnm⟩ : ∃ s : ByteArray, n2 ++ dr = s := ⟨_, rfl⟩
              have znm : nm.size ≤ 6 + 3 := cat_sz hnm (by first | assumption | decide) (by first | assumption | decide)
              have qnm := cat_at hnm (Nat.le_trans (Nat.add_le_add (show ByteArray.size _ ≤ 6 by first | assumption | decide) (show ByteArray.size _ ≤ 3 by first | assumption | decide)) (by decide))
              obtain ⟨na, hna⟩ : ∃ s : ByteArray, (⟨#[97]⟩ : ByteArray) ++ dw = s := ⟨_, rfl⟩
              have zna : na.size ≤ 1 + 3 := cat_sz hna (by first | assumption | decide) (by first | assumption | decide)
              have qna := cat_at hna (Nat.le_trans (Nat.add_le_add (show ByteArray.size _ ≤ 1 by first | assumption | decide) (show ByteArray.size _ ≤ 3 by first | assumption | decide)) (by decide))
              obtain ⟨nn, hnn⟩ : ∃ s : ByteArray, (⟨#[109]⟩ : ByteArray) ++ dn = s := ⟨_, rfl⟩
              have znn : nn.size ≤ 1 + 3 := cat_sz hnn (by first | assumption | decide) (by first | assumption | decide)
              have qnn := cat_at hnn (Nat.le_trans (Nat.add_le_add (show ByteArray.size _ ≤ 1 by first | assumption | decide) (show ByteArray.size _ ≤ 3 by first | assumption | decide)) (by decide))
              obtain ⟨nh, hnh⟩ : ∃ s, pairN ⟨#[104]⟩ xs xr = s := ⟨_, rfl⟩
              have hnhH := Lib.hid hnh
              have ht := Lib.hid (show tnm (0, xs, xr) = nm by rw [← hnm, ← hn2, ← hn1, ← hds, ← hdr]; rfl)
              have ka := Lib.hid (NmG.of (c := (0, xw, 0)) (s := na) (in_gU (by simp <;> omega)) (by rw [← hna, ← hdw]; rfl))
              have km := Lib.hid (NmG.of (c := (1, xn, 0)) (s := nn) (in_gU (by simp <;> omega)) (by rw [← hnn, ← hdn]; rfl))
              have kh := Lib.hid (NmG.of (c := (2, xs, xr)) (s := nh) (in_gU (by simp <;> omega)) hnh)
              have hfr := Lib.hid (hNm.out.fresh (d := (0, xs, xr)) (nm := nm) (fun c hc => ⟨in_tU (by omega), fun e => by subst e; simp at hc⟩) (in_tU (by simp <;> omega)) ht.out)
              have hlen := Lib.hid (show (tMs gs (ms.take j)).length ≤ 1000 by
                have := hml.out
                have := List.length_take_le j ms
                simp only [List.length_append, len_tMs, len_tIa, len_tIn, len_tEW, List.length_cons, List.length_nil]; omega)
              clear hnm hn2 hn1 hna hnn hnh hds hdr hdw hdn
              go_wp2_with fail
              obtain ⟨wa, hwa⟩ : ∃ wa, wa = wr.alloc (Obj.cells #[.int .i64 (xs : Int), .int .i64 (xr : Int), .int .i64 (xw : Int), .int .i64 vd, .int .i64 (xn : Int)] 82) := ⟨_, rfl⟩
              have u0 : wa.cell? ⟨wr.heap.size, 0, none⟩ = some (.int .i64 (xs : Int)) := by rw [hwa]; go_simp
              have u1 : wa.cell? ⟨wr.heap.size, 1, none⟩ = some (.int .i64 (xr : Int)) := by rw [hwa]; go_simp
              have u2 : wa.cell? ⟨wr.heap.size, 2, none⟩ = some (.int .i64 (xw : Int)) := by rw [hwa]; go_simp
              have u3 : wa.cell? ⟨wr.heap.size, 3, none⟩ = some (.int .i64 vd) := by rw [hwa]; go_simp
              have u4 : wa.cell? ⟨wr.heap.size, 4, none⟩ = some (.int .i64 (xn : Int)) := by rw [hwa]; go_simp
              have lu : wr.heap.size < wa.heap.size := by rw [hwa]; simp
              have jb : Below wr.heap.size wr wa.drew := by rw [hwa]; exact bl_dr (bl_al (bl_refl wr) _)
              rw [← hwa]
              clear hwa e0 e1 e2 e3 e4
              refine wp_region_ord [(0, .q), (1, .q), (5, .q), (6, .q), (2, .g), (3, .q), (4, .q), (7, .g), (8, .q), (9, .q)] (by kernel_rfl) (by kernel_rfl) ?_
              simp only [pick, List.filterMap_cons, List.filterMap_nil, List.getElem?_toArray, List.getElem?_cons_zero, List.getElem?_cons_succ, Option.map_some]
              repeat (first | ((with_reducible refine wpD_p (fun K hK => ?_)); go_simp; refine hK _ ?_; clear hK K) | ((with_reducible refine wpD_q (fun K hK => ?_)); go_simp; (first | refine hK _ ?_ | (go_bits; refine hK _ ?_) | (go_bits; go_simp; refine hK _ ?_)); clear hK K))
              with_reducible refine wpD_g (fun K hK => ?_)
              go_simp
              refine (lDecimal_n (u := xs) _ (by omega) hdsH.out).mono ?_
              rintro e w5 ⟨rfl, hb⟩
              refine ⟨_, rfl, hb, hK _ _ ?_⟩
              clear hK K
              replace u0 := (hb.cell (p := ⟨wr.heap.size, 0, none⟩) lu).trans u0
              replace u1 := (hb.cell (p := ⟨wr.heap.size, 1, none⟩) lu).trans u1
              replace u2 := (hb.cell (p := ⟨wr.heap.size, 2, none⟩) lu).trans u2
              replace u3 := (hb.cell (p := ⟨wr.heap.size, 3, none⟩) lu).trans u3
              replace u4 := (hb.cell (p := ⟨wr.heap.size, 4, none⟩) lu).trans u4
              replace lu := Nat.lt_of_lt_of_le lu hb.size
              replace jb := jb.trans (hb.mono jb.size)
              clear hb
              repeat (first | ((with_reducible refine wpD_p (fun K hK => ?_)); go_simp; refine hK _ ?_; clear hK K) | ((with_reducible refine wpD_q (fun K hK => ?_)); go_simp; (first | refine hK _ ?_ | (go_bits; refine hK _ ?_) | (go_bits; go_simp; refine hK _ ?_)); clear hK K))
              with_reducible refine wpD_g (fun K hK => ?_)
              go_simp
              refine (lDecimal_n (u := xr) _ (by omega) hdrH.out).mono ?_
              rintro e w5b ⟨rfl, hb⟩
              refine ⟨_, rfl, hb, hK _ _ ?_⟩
              clear hK K
              replace u0 := (hb.cell (p := ⟨wr.heap.size, 0, none⟩) lu).trans u0
              replace u1 := (hb.cell (p := ⟨wr.heap.size, 1, none⟩) lu).trans u1
              replace u2 := (hb.cell (p := ⟨wr.heap.size, 2, none⟩) lu).trans u2
              replace u3 := (hb.cell (p := ⟨wr.heap.size, 3, none⟩) lu).trans u3
              replace u4 := (hb.cell (p := ⟨wr.heap.size, 4, none⟩) lu).trans u4
              replace lu := Nat.lt_of_lt_of_le lu hb.size
              replace jb := jb.trans (hb.mono jb.size)
              clear hb
              repeat (first | ((with_reducible refine wpD_p (fun K hK => ?_)); go_simp; refine hK _ ?_; clear hK K) | ((with_reducible refine wpD_q (fun K hK => ?_)); go_simp; (first | refine hK _ ?_ | (go_bits; refine hK _ ?_) | (go_bits; go_simp; refine hK _ ?_)); clear hK K))
              with_reducible refine wpD_nil ?_
              have hd := o5.out
              by_cases hd1 : vd = 1
              · subst hd1
                go_wp2_with fail
                replace jb : Below wr.heap.size wr w5b.drew := bl_dr jb
                refine wp_region_ord [(0, .q), (1, .q), (2, .q), (3, .q), (6, .q), (7, .q), (10, .q), (11, .q), (12, .q), (13, .q), (4, .g), (5, .q), (8, .g), (9, .q), (14, .g), (15, .b)] (by kernel_rfl) (by kernel_rfl) ?_
                simp only [pick, List.filterMap_cons, List.filterMap_nil, List.getElem?_toArray, List.getElem?_cons_zero, List.getElem?_cons_succ, Option.map_some]
                repeat (first | ((with_reducible refine wpD_p (fun K hK => ?_)); go_simp; refine hK _ ?_; clear hK K) | ((with_reducible refine wpD_q (fun K hK => ?_)); go_simp; (first | refine hK _ ?_ | (go_bits; refine hK _ ?_) | (go_bits; go_simp; refine hK _ ?_)); clear hK K))
                with_reducible refine wpD_g (fun K hK => ?_)
                go_simp
                refine (lDecimal_n (u := xw) _ (by omega) hdwH.out).mono ?_
                rintro e w5c ⟨rfl, hb⟩
                refine ⟨_, rfl, hb, hK _ _ ?_⟩
                clear hK K
                replace u0 := (hb.cell (p := ⟨wr.heap.size, 0, none⟩) lu).trans u0
                replace u1 := (hb.cell (p := ⟨wr.heap.size, 1, none⟩) lu).trans u1
                replace u2 := (hb.cell (p := ⟨wr.heap.size, 2, none⟩) lu).trans u2
                replace u3 := (hb.cell (p := ⟨wr.heap.size, 3, none⟩) lu).trans u3
                replace u4 := (hb.cell (p := ⟨wr.heap.size, 4, none⟩) lu).trans u4
                replace lu := Nat.lt_of_lt_of_le lu hb.size
                replace jb := jb.trans (hb.mono jb.size)
                clear hb
                repeat (first | ((with_reducible refine wpD_p (fun K hK => ?_)); go_simp; refine hK _ ?_; clear hK K) | ((with_reducible refine wpD_q (fun K hK => ?_)); go_simp; (first | refine hK _ ?_ | (go_bits; refine hK _ ?_) | (go_bits; go_simp; refine hK _ ?_)); clear hK K))
                with_reducible refine wpD_g (fun K hK => ?_)
                go_simp
                refine (lDecimal_n (u := xn) _ (by omega) hdnH.out).mono ?_
                rintro e w5d ⟨rfl, hb⟩
                refine ⟨_, rfl, hb, hK _ _ ?_⟩
                clear hK K
                replace u0 := (hb.cell (p := ⟨wr.heap.size, 0, none⟩) lu).trans u0
                replace u1 := (hb.cell (p := ⟨wr.heap.size, 1, none⟩) lu).trans u1
                replace u2 := (hb.cell (p := ⟨wr.heap.size, 2, none⟩) lu).trans u2
                replace u3 := (hb.cell (p := ⟨wr.heap.size, 3, none⟩) lu).trans u3
                replace u4 := (hb.cell (p := ⟨wr.heap.size, 4, none⟩) lu).trans u4
                replace lu := Nat.lt_of_lt_of_le lu hb.size
                replace jb := jb.trans (hb.mono jb.size)
                clear hb
                repeat (first | ((with_reducible refine wpD_p (fun K hK => ?_)); go_simp; refine hK _ ?_; clear hK K) | ((with_reducible refine wpD_q (fun K hK => ?_)); go_simp; (first | refine hK _ ?_ | (go_bits; refine hK _ ?_) | (go_bits; go_simp; refine hK _ ?_)); clear hK K))
                with_reducible refine wpD_g (fun K hK => ?_)
                go_simp
                refine (l18Head_n (a := xs) (b := xr) _ (by omega) (by omega) hnhH.out).mono ?_
                rintro e w5e ⟨rfl, hb⟩
                refine ⟨_, rfl, hb, hK _ _ ?_⟩
                clear hK K
                replace u0 := (hb.cell (p := ⟨wr.heap.size, 0, none⟩) lu).trans u0
                replace u1 := (hb.cell (p := ⟨wr.heap.size, 1, none⟩) lu).trans u1
                replace u2 := (hb.cell (p := ⟨wr.heap.size, 2, none⟩) lu).trans u2
                replace u3 := (hb.cell (p := ⟨wr.heap.size, 3, none⟩) lu).trans u3
                replace u4 := (hb.cell (p := ⟨wr.heap.size, 4, none⟩) lu).trans u4
                replace lu := Nat.lt_of_lt_of_le lu hb.size
                replace jb := jb.trans (hb.mono jb.size)
                clear hb
                repeat (first | ((with_reducible refine wpD_p (fun K hK => ?_)); go_simp; refine hK _ ?_; clear hK K) | ((with_reducible refine wpD_q (fun K hK => ?_)); go_simp; (first | refine hK _ ?_ | (go_bits; refine hK _ ?_) | (go_bits; go_simp; refine hK _ ?_)); clear hK K))
                with_reducible refine wpD_b (fun K hK => ?_)
                go_simp
                refine (stile_cd (gs := gs) (ts := tMs gs (ms.take j)) (c := (0, xs, xr)) (hM.out.below jb) ht.out (sd_some ka.out.eq) (sd_some km.out.eq) (sd_some kh.out.eq) (sd_some kl.out.eq) hfr.out hgl hlen.out).mono ?_
                rintro e w6 ⟨⟨kk, rfl⟩, hM6, hF6, hB6⟩
                refine ⟨_, rfl, hK _ _ ?_⟩
                clear hK K
                have hM7 := Lib.hid hM6
                have hfar7 := Lib.hid ((hfar.out.trans (Far.of_below jb)).trans hF6)
                have bw7 := Lib.hid ((hbw.out.trans (jb.mono (show b ≤ wr.heap.size by omega))).trans hB6)
                clear hM6 hF6 hB6 jb hM hfar hbw p0 p1 p2 lp hszl u0 u1 u2 u3 u4 lu
                repeat (first | ((with_reducible refine wpD_p (fun K hK => ?_)); go_simp; refine hK _ ?_; clear hK K) | ((with_reducible refine wpD_q (fun K hK => ?_)); go_simp; (first | refine hK _ ?_ | (go_bits; refine hK _ ?_) | (go_bits; go_simp; refine hK _ ?_)); clear hK K))
                with_reducible refine wpD_nil ?_
                go_wp2
                go_roundg (n - (j + 1))
                case measure => omega
                case rel => exact ⟨j + 1, by omega, by go_num, Lib.hid (by rw [htk.out]; unfold tMs; rw [List.map_append, List.map_cons, List.map_nil]; exact hM7.out), hfar7, bw7⟩
              · obtain rfl : vd = 3 := by omega
                have hd1b : ((3 : Int) == 1) = false := by decide
                go_wp2_with fail
                replace jb : Below wr.heap.size wr w5b.drew := bl_dr jb
                refine wp_region_ord [(0, .q), (1, .q), (2, .q), (3, .q), (6, .q), (7, .q), (8, .q), (9, .q), (11, .q), (12, .q), (4, .g), (5, .q), (10, .g), (13, .g), (14, .q), (15, .b)] (by kernel_rfl) (by kernel_rfl) ?_
                simp only [pick, List.filterMap_cons, List.filterMap_nil, List.getElem?_toArray, List.getElem?_cons_zero, List.getElem?_cons_succ, Option.map_some]
                repeat (first | ((with_reducible refine wpD_p (fun K hK => ?_)); go_simp; refine hK _ ?_; clear hK K) | ((with_reducible refine wpD_q (fun K hK => ?_)); go_simp; (first | refine hK _ ?_ | (go_bits; refine hK _ ?_) | (go_bits; go_simp; refine hK _ ?_)); clear hK K))
                with_reducible refine wpD_g (fun K hK => ?_)
                go_simp
                refine (lDecimal_n (u := xw) _ (by omega) hdwH.out).mono ?_
                rintro e w5c ⟨rfl, hb⟩
                refine ⟨_, rfl, hb, hK _ _ ?_⟩
                clear hK K
                replace u0 := (hb.cell (p := ⟨wr.heap.size, 0, none⟩) lu).trans u0
                replace u1 := (hb.cell (p := ⟨wr.heap.size, 1, none⟩) lu).trans u1
                replace u2 := (hb.cell (p := ⟨wr.heap.size, 2, none⟩) lu).trans u2
                replace u3 := (hb.cell (p := ⟨wr.heap.size, 3, none⟩) lu).trans u3
                replace u4 := (hb.cell (p := ⟨wr.heap.size, 4, none⟩) lu).trans u4
                replace lu := Nat.lt_of_lt_of_le lu hb.size
                replace jb := jb.trans (hb.mono jb.size)
                clear hb
                repeat (first | ((with_reducible refine wpD_p (fun K hK => ?_)); go_simp; refine hK _ ?_; clear hK K) | ((with_reducible refine wpD_q (fun K hK => ?_)); go_simp; (first | refine hK _ ?_ | (go_bits; refine hK _ ?_) | (go_bits; go_simp; refine hK _ ?_)); clear hK K))
                with_reducible refine wpD_g (fun K hK => ?_)
                go_simp
                refine (l18Head_n (a := xs) (b := xr) _ (by omega) (by omega) hnhH.out).mono ?_
                rintro e w5d ⟨rfl, hb⟩
                refine ⟨_, rfl, hb, hK _ _ ?_⟩
                clear hK K
                replace u0 := (hb.cell (p := ⟨wr.heap.size, 0, none⟩) lu).trans u0
                replace u1 := (hb.cell (p := ⟨wr.heap.size, 1, none⟩) lu).trans u1
                replace u2 := (hb.cell (p := ⟨wr.heap.size, 2, none⟩) lu).trans u2
                replace u3 := (hb.cell (p := ⟨wr.heap.size, 3, none⟩) lu).trans u3
                replace u4 := (hb.cell (p := ⟨wr.heap.size, 4, none⟩) lu).trans u4
                replace lu := Nat.lt_of_lt_of_le lu hb.size
                replace jb := jb.trans (hb.mono jb.size)
                clear hb
                repeat (first | ((with_reducible refine wpD_p (fun K hK => ?_)); go_simp; refine hK _ ?_; clear hK K) | ((with_reducible refine wpD_q (fun K hK => ?_)); go_simp; (first | refine hK _ ?_ | (go_bits; refine hK _ ?_) | (go_bits; go_simp; refine hK _ ?_)); clear hK K))
                with_reducible refine wpD_g (fun K hK => ?_)
                go_simp
                refine (lDecimal_n (u := xn) _ (by omega) hdnH.out).mono ?_
                rintro e w5e ⟨rfl, hb⟩
                refine ⟨_, rfl, hb, hK _ _ ?_⟩
                clear hK K
                replace u0 := (hb.cell (p := ⟨wr.heap.size, 0, none⟩) lu).trans u0
                replace u1 := (hb.cell (p := ⟨wr.heap.size, 1, none⟩) lu).trans u1
                replace u2 := (hb.cell (p := ⟨wr.heap.size, 2, none⟩) lu).trans u2
                replace u3 := (hb.cell (p := ⟨wr.heap.size, 3, none⟩) lu).trans u3
                replace u4 := (hb.cell (p := ⟨wr.heap.size, 4, none⟩) lu).trans u4
                replace lu := Nat.lt_of_lt_of_le lu hb.size
                replace jb := jb.trans (hb.mono jb.size)
                clear hb
                repeat (first | ((with_reducible refine wpD_p (fun K hK => ?_)); go_simp; refine hK _ ?_; clear hK K) | ((with_reducible refine wpD_q (fun K hK => ?_)); go_simp; (first | refine hK _ ?_ | (go_bits; refine hK _ ?_) | (go_bits; go_simp; refine hK _ ?_)); clear hK K))
                with_reducible refine wpD_b (fun K hK => ?_)
                go_simp
                refine (stile_cd (gs := gs) (ts := tMs gs (ms.take j)) (c := (0, xs, xr)) (hM.out.below jb) ht.out (sd_some ka.out.eq) (sd_some kr.out.eq) (sd_some kh.out.eq) (sd_some km.out.eq) hfr.out hgl hlen.out).mono ?_
                rintro e w6 ⟨⟨kk, rfl⟩, hM6, hF6, hB6⟩
                refine ⟨_, rfl, hK _ _ ?_⟩
                clear hK K
                have hM7 := Lib.hid hM6
                have hfar7 := Lib.hid ((hfar.out.trans (Far.of_below jb)).trans hF6)
                have bw7 := Lib.hid ((hbw.out.trans (jb.mono (show b ≤ wr.heap.size by omega))).trans hB6)
                clear hM6 hF6 hB6 jb hM hfar hbw p0 p1 p2 lp hszl u0 u1 u2 u3 u4 lu
                repeat (first | ((with_reducible refine wpD_p (fun K hK => ?_)); go_simp; refine hK _ ?_; clear hK K) | ((with_reducible refine wpD_q (fun K hK => ?_)); go_simp; (first | refine hK _ ?_ | (go_bits; refine hK _ ?_) | (go_bits; go_simp; refine hK _ ?_)); clear hK K))
                with_reducible refine wpD_nil ?_
                go_wp2
                go_roundg (n - (j + 1))
                case measure => omega
                case rel => exact ⟨j + 1, by omega, by go_num, Lib.hid (by rw [htk.out]; unfold tMs; rw [List.map_append, List.map_cons, List.map_nil]; exact hM7.out), hfar7, bw7⟩
            · obtain rfl : j = n := by omega
              have hM1 := hM.out
              rw [List.take_of_length_le (by rw [hml.out]; exact Nat.le_refl _)] at hM1
              have hM := Lib.hid hM1
              clear hM1
              go_wp2
              go_loopg [10] q (fun g i wr => ∃ (x : Nat), x + g = q ∧ i = .int .i64 (x : Int) ∧ Hid (Sk wr b (gs, tMs gs ms ++ tIa gs k x)) ∧ Hid (Far SkTs w wr) ∧ Hid (Below b w wr))
              case atStart => exact ⟨0, by omega, rfl, by simp only [tIa, List.append_nil]; exact hM, hfar, hbw⟩
              case round =>
                clear hM hfar hbw hszl p0 p1 p2 lp
                obtain ⟨x, hx, rfl, hM, hfar, hbw⟩ := hrel
                have hszl := hbw.out.size
                have p0 := (hbw.out.cell (p := ⟨p, 0, none⟩) hp).trans c0
                have p1 := (hbw.out.cell (p := ⟨p, 1, none⟩) hp).trans c1
                have p2 := (hbw.out.cell (p := ⟨p, 2, none⟩) hp).trans c2
                have lp : p < wr.heap.size := by omega
                by_cases hxq : x < q
                · have hmul3 : x * (2 * k) ≤ 5 * 8 := Nat.mul_le_mul (by omega) (by omega)
                  go_wp2
                  go_loopg [11] k (fun g i wr => ∃ (y : Nat), y + g = k ∧ i = .int .i64 (y : Int) ∧ Hid (Sk wr b (gs, tMs gs ms ++ tIa gs k x ++ tIn gs x y)) ∧ Hid (Far SkTs w wr) ∧ Hid (Below b w wr))
                  case atStart => exact ⟨0, by omega, rfl, by simp only [tIn, List.append_nil]; exact hM, hfar, hbw⟩
                  case round =>
                    clear hM hfar hbw hszl p0 p1 p2 lp
                    obtain ⟨y, hy, rfl, hM, hfar, hbw⟩ := hrel
                    have hszl := hbw.out.size
                    have p0 := (hbw.out.cell (p := ⟨p, 0, none⟩) hp).trans c0
                    have p1 := (hbw.out.cell (p := ⟨p, 1, none⟩) hp).trans c1
                    have p2 := (hbw.out.cell (p := ⟨p, 2, none⟩) hp).trans c2
                    have lp : p < wr.heap.size := by omega
                    by_cases hyk : y < k
                    · have hmy : x * (2 * k) + 2 * y ≤ 48 := by omega
                      obtain ⟨dx, hdx⟩ : ∃ s, decN x = s := ⟨_, rfl⟩
                      have zdx : dx.size ≤ 3 := by rw [← hdx]; exact decN_size (by omega)
                      have hdxH := Lib.hid hdx
                      obtain ⟨dy, hdy⟩ : ∃ s, decN y = s := ⟨_, rfl⟩
                      have zdy : dy.size ≤ 3 := by rw [← hdy]; exact decN_size (by omega)
                      have hdyH := Lib.hid hdy
                      obtain ⟨n1, hn1⟩ : ∃ s : ByteArray, dx ++ (⟨#[95]⟩ : ByteArray) = s := ⟨_, rfl⟩
                      have zn1 : n1.size ≤ 3 + 1 := cat_sz hn1 (by first | assumption | decide) (by first | assumption | decide)
                      have qn1 := cat_at hn1 (Nat.le_trans (Nat.add_le_add (show ByteArray.size _ ≤ 3 by first | assumption | decide) (show ByteArray.size _ ≤ 1 by first | assumption | decide)) (by decide))
                      obtain ⟨n2, hn2⟩ : ∃ s : ByteArray, n1 ++ dy = s := ⟨_, rfl⟩
                      have zn2 : n2.size ≤ 4 + 3 := cat_sz hn2 (by first | assumption | decide) (by first | assumption | decide)
                      have qn2 := cat_at hn2 (Nat.le_trans (Nat.add_le_add (show ByteArray.size _ ≤ 4 by first | assumption | decide) (show ByteArray.size _ ≤ 3 by first | assumption | decide)) (by decide))
                      obtain ⟨nw, hnw⟩ : ∃ s : ByteArray, (⟨#[105, 110, 119]⟩ : ByteArray) ++ n2 = s := ⟨_, rfl⟩
                      have znw : nw.size ≤ 3 + 7 := cat_sz hnw (by first | assumption | decide) (by first | assumption | decide)
                      have qnw := cat_at hnw (Nat.le_trans (Nat.add_le_add (show ByteArray.size _ ≤ 3 by first | assumption | decide) (show ByteArray.size _ ≤ 7 by first | assumption | decide)) (by decide))
                      obtain ⟨ne, hne⟩ : ∃ s : ByteArray, (⟨#[105, 110, 101]⟩ : ByteArray) ++ n2 = s := ⟨_, rfl⟩
                      have zne : ne.size ≤ 3 + 7 := cat_sz hne (by first | assumption | decide) (by first | assumption | decide)
                      have qne := cat_at hne (Nat.le_trans (Nat.add_le_add (show ByteArray.size _ ≤ 3 by first | assumption | decide) (show ByteArray.size _ ≤ 7 by first | assumption | decide)) (by decide))
                      obtain ⟨na, hna⟩ : ∃ s : ByteArray, (⟨#[97]⟩ : ByteArray) ++ dy = s := ⟨_, rfl⟩
                      have zna : na.size ≤ 1 + 3 := cat_sz hna (by first | assumption | decide) (by first | assumption | decide)
                      have qna := cat_at hna (Nat.le_trans (Nat.add_le_add (show ByteArray.size _ ≤ 1 by first | assumption | decide) (show ByteArray.size _ ≤ 3 by first | assumption | decide)) (by decide))
                      obtain ⟨nn, hnn⟩ : ∃ s : ByteArray, (⟨#[109]⟩ : ByteArray) ++ dx = s := ⟨_, rfl⟩
                      have znn : nn.size ≤ 1 + 3 := cat_sz hnn (by first | assumption | decide) (by first | assumption | decide)
                      have qnn := cat_at hnn (Nat.le_trans (Nat.add_le_add (show ByteArray.size _ ≤ 1 by first | assumption | decide) (show ByteArray.size _ ≤ 3 by first | assumption | decide)) (by decide))
                      obtain ⟨nh, hnh⟩ : ∃ s, pairN ⟨#[104]⟩ x y = s := ⟨_, rfl⟩
                      have hnhH := Lib.hid hnh
                      have htw := Lib.hid (show tnm (1, x, y) = nw by rw [← hnw, ← hn2, ← hn1, ← hdx, ← hdy, ← ByteArray.append_assoc, ← ByteArray.append_assoc]; rfl)
                      have hte := Lib.hid (show tnm (2, x, y) = ne by rw [← hne, ← hn2, ← hn1, ← hdx, ← hdy, ← ByteArray.append_assoc, ← ByteArray.append_assoc]; rfl)
                      have ka := Lib.hid (NmG.of (c := (0, y, 0)) (s := na) (in_gU (by simp <;> omega)) (by rw [← hna, ← hdy]; rfl))
                      have km := Lib.hid (NmG.of (c := (1, x, 0)) (s := nn) (in_gU (by simp <;> omega)) (by rw [← hnn, ← hdx]; rfl))
                      have kh := Lib.hid (NmG.of (c := (2, x, y)) (s := nh) (in_gU (by simp <;> omega)) hnh)
                      have hN1 := Lib.hid (show NmL (tMs gs ms ++ tIa gs k x ++ tIn gs x y) (fun c => (c.1 = 0 ∧ c.2.1 < q ∧ c.2.2 < k) ∨ ((c.1 = 1 ∨ c.1 = 2) ∧ ((c.2.1 < x ∧ c.2.2 < k) ∨ (c.2.1 = x ∧ c.2.2 < y)))) from (((nm_tMs_all hokH.out).mono fun c h => .inl h).app ((nm_tIa x).mono fun c h => .inr ⟨h.1, .inl h.2⟩)).app ((nm_tIn y).mono fun c h => .inr ⟨h.1, .inr h.2⟩))
                      have hfr1 := Lib.hid (hN1.out.fresh (d := (1, x, y)) (nm := nw) (fun c hc => ⟨in_tU (by omega), fun e => by subst e; simp at hc⟩) (in_tU (by simp <;> omega)) htw.out)
                      have hN2 := Lib.hid (show NmL (tMs gs ms ++ tIa gs k x ++ tIn gs x y ++ [tIw gs x y]) (fun c => ((c.1 = 0 ∧ c.2.1 < q ∧ c.2.2 < k) ∨ ((c.1 = 1 ∨ c.1 = 2) ∧ ((c.2.1 < x ∧ c.2.2 < k) ∨ (c.2.1 = x ∧ c.2.2 < y)))) ∨ (c.1 = 1 ∧ c.2.1 = x ∧ c.2.2 = y)) from (hN1.out.mono fun c h => .inl h).app (NmL.one (.inr ⟨rfl, rfl, rfl⟩)))
                      have hfr2 := Lib.hid (hN2.out.fresh (d := (2, x, y)) (nm := ne) (fun c hc => ⟨in_tU (by omega), fun e => by subst e; simp at hc⟩) (in_tU (by simp <;> omega)) hte.out)
                      have hlen := Lib.hid (show (tMs gs ms ++ tIa gs k x ++ tIn gs x y).length ≤ 1000 by
                        have := hml.out
                        simp only [List.length_append, len_tMs, len_tIa, len_tIn, len_tEW, List.length_cons, List.length_nil]; omega)
                      have jb : Below wr.heap.size wr wr := bl_refl wr
                      clear hnw hne hn2 hn1 hna hnn hnh hdx hdy
                      go_wp2_with fail
                      refine (lDecimal_n (u := x) _ (by omega) hdxH.out).mono ?_
                      rintro e w1 ⟨rfl, hb⟩
                      replace jb := jb.trans (hb.mono jb.size)
                      clear hb
                      go_wp2_with fail
                      refine (lDecimal_n (u := y) _ (by omega) hdyH.out).mono ?_
                      rintro e w2 ⟨rfl, hb⟩
                      replace jb := jb.trans (hb.mono jb.size)
                      clear hb
                      go_wp2_with fail
                      refine (l18Head_n (a := x) (b := y) _ (by omega) (by omega) hnhH.out).mono ?_
                      rintro e w3 ⟨rfl, hb⟩
                      replace jb := jb.trans (hb.mono jb.size)
                      clear hb
                      go_wp2_with fail
                      refine (lDecimal_n (u := y) _ (by omega) hdyH.out).mono ?_
                      rintro e w4 ⟨rfl, hb⟩
                      replace jb := jb.trans (hb.mono jb.size)
                      clear hb
                      go_wp2_with fail
                      refine (lDecimal_n (u := x) _ (by omega) hdxH.out).mono ?_
                      rintro e w5 ⟨rfl, hb⟩
                      replace jb := jb.trans (hb.mono jb.size)
                      clear hb
                      go_wp2_with fail
                      refine (stile_cd (gs := gs) (ts := tMs gs ms ++ tIa gs k x ++ tIn gs x y) (c := (1, x, y)) (hM.out.below jb) htw.out (sd_some kh.out.eq) (sd_some kr.out.eq) (sd_some ka.out.eq) (sd_some km.out.eq) hfr1.out hgl hlen.out).mono ?_
                      rintro e w6 ⟨⟨kk, rfl⟩, hM6, hF6, hB6⟩
                      have hM7 := Lib.hid hM6
                      have hfar7 := Lib.hid ((hfar.out.trans (Far.of_below jb)).trans hF6)
                      have bw7 := Lib.hid ((hbw.out.trans (jb.mono (show b ≤ wr.heap.size by omega))).trans hB6)
                      clear hM6 hF6 hB6 jb hM hfar hbw p0 p1 p2 lp hszl hlen
                      obtain ⟨wr, hwr⟩ : ∃ x : World, x = w6 := ⟨_, rfl⟩
                      subst hwr
                      have hM := hM7
                      have hfar := hfar7
                      have hbw := bw7
                      clear hM7 hfar7 bw7
                      have hszl := hbw.out.size
                      have p0 := (hbw.out.cell (p := ⟨p, 0, none⟩) hp).trans c0
                      have p1 := (hbw.out.cell (p := ⟨p, 1, none⟩) hp).trans c1
                      have p2 := (hbw.out.cell (p := ⟨p, 2, none⟩) hp).trans c2
                      have lp : p < wr.heap.size := by omega
                      replace hM : Hid (Sk wr b (gs, tMs gs ms ++ tIa gs k x ++ tIn gs x y ++ [tIw gs x y])) := hM
                      have hlen := Lib.hid (show (tMs gs ms ++ tIa gs k x ++ tIn gs x y ++ [tIw gs x y]).length ≤ 1000 by
                        have := hml.out
                        simp only [List.length_append, len_tMs, len_tIa, len_tIn, len_tEW, List.length_cons, List.length_nil]; omega)
                      have jb : Below wr.heap.size wr wr := bl_refl wr
                      go_wp2_with fail
                      refine (l18Head_n (a := x) (b := y) _ (by omega) (by omega) hnhH.out).mono ?_
                      rintro e w3 ⟨rfl, hb⟩
                      replace jb := jb.trans (hb.mono jb.size)
                      clear hb
                      go_wp2_with fail
                      refine (lDecimal_n (u := x) _ (by omega) hdxH.out).mono ?_
                      rintro e w4 ⟨rfl, hb⟩
                      replace jb := jb.trans (hb.mono jb.size)
                      clear hb
                      go_wp2_with fail
                      refine (lDecimal_n (u := y) _ (by omega) hdyH.out).mono ?_
                      rintro e w5 ⟨rfl, hb⟩
                      replace jb := jb.trans (hb.mono jb.size)
                      clear hb
                      go_wp2_with fail
                      refine (stile_cd (gs := gs) (ts := tMs gs ms ++ tIa gs k x ++ tIn gs x y ++ [tIw gs x y]) (c := (2, x, y)) (hM.out.below jb) hte.out (sd_some kh.out.eq) (sd_some km.out.eq) (sd_some ka.out.eq) (sd_some kl.out.eq) hfr2.out hgl hlen.out).mono ?_
                      rintro e w6 ⟨⟨kk, rfl⟩, hM6, hF6, hB6⟩
                      have hM7 := Lib.hid hM6
                      have hfar7 := Lib.hid ((hfar.out.trans (Far.of_below jb)).trans hF6)
                      have bw7 := Lib.hid ((hbw.out.trans (jb.mono (show b ≤ wr.heap.size by omega))).trans hB6)
                      clear hM6 hF6 hB6 jb hM hfar hbw p0 p1 p2 lp hszl hlen
                      go_wp2
                      go_roundg (k - (y + 1))
                      case measure => omega
                      case rel => exact ⟨y + 1, by omega, by go_num, Lib.hid (by rw [tIn, ← List.append_assoc, ← List.append_assoc]; exact hM7.out), hfar7, bw7⟩
                    · obtain rfl : y = k := by omega
                      go_wp2
                      go_roundg (q - (x + 1))
                      case measure => omega
                      case rel => exact ⟨x + 1, by omega, by go_num, by rw [tIa, ← List.append_assoc]; exact hM, hfar, hbw⟩
                · obtain rfl : x = q := by omega
                  go_wp2
                  go_loopg [13] k (fun g i wr => ∃ (y : Nat), y + g = k ∧ i = .int .i64 (y : Int) ∧ Hid (Sk wr b (gs, tMs gs ms ++ tIa gs k x ++ tEW gs y)) ∧ Hid (Far SkTs w wr) ∧ Hid (Below b w wr))
                  case atStart => exact ⟨0, by omega, rfl, by simp only [tEW, List.append_nil]; exact hM, hfar, hbw⟩
                  case round =>
                    clear hM hfar hbw hszl p0 p1 p2 lp
                    obtain ⟨y, hy, rfl, hM, hfar, hbw⟩ := hrel
                    have hszl := hbw.out.size
                    have p0 := (hbw.out.cell (p := ⟨p, 0, none⟩) hp).trans c0
                    have p1 := (hbw.out.cell (p := ⟨p, 1, none⟩) hp).trans c1
                    have p2 := (hbw.out.cell (p := ⟨p, 2, none⟩) hp).trans c2
                    have lp : p < wr.heap.size := by omega
                    by_cases hyk : y < k
                    · obtain ⟨dy, hdy⟩ : ∃ s, decN y = s := ⟨_, rfl⟩
                      have zdy : dy.size ≤ 3 := by rw [← hdy]; exact decN_size (by omega)
                      have hdyH := Lib.hid hdy
                      obtain ⟨ne, hne⟩ : ∃ s : ByteArray, (⟨#[101, 97, 115, 116]⟩ : ByteArray) ++ dy = s := ⟨_, rfl⟩
                      have zne : ne.size ≤ 4 + 3 := cat_sz hne (by first | assumption | decide) (by first | assumption | decide)
                      have qne := cat_at hne (Nat.le_trans (Nat.add_le_add (show ByteArray.size _ ≤ 4 by first | assumption | decide) (show ByteArray.size _ ≤ 3 by first | assumption | decide)) (by decide))
                      obtain ⟨nw, hnw⟩ : ∃ s : ByteArray, (⟨#[119, 101, 115, 116]⟩ : ByteArray) ++ dy = s := ⟨_, rfl⟩
                      have znw : nw.size ≤ 4 + 3 := cat_sz hnw (by first | assumption | decide) (by first | assumption | decide)
                      have qnw := cat_at hnw (Nat.le_trans (Nat.add_le_add (show ByteArray.size _ ≤ 4 by first | assumption | decide) (show ByteArray.size _ ≤ 3 by first | assumption | decide)) (by decide))
                      obtain ⟨na, hna⟩ : ∃ s : ByteArray, (⟨#[97]⟩ : ByteArray) ++ dy = s := ⟨_, rfl⟩
                      have zna : na.size ≤ 1 + 3 := cat_sz hna (by first | assumption | decide) (by first | assumption | decide)
                      have qna := cat_at hna (Nat.le_trans (Nat.add_le_add (show ByteArray.size _ ≤ 1 by first | assumption | decide) (show ByteArray.size _ ≤ 3 by first | assumption | decide)) (by decide))
                      have hte := Lib.hid (show tnm (3, y, 0) = ne by rw [← hne, ← hdy]; rfl)
                      have htw := Lib.hid (show tnm (4, y, 0) = nw by rw [← hnw, ← hdy]; rfl)
                      have ka := Lib.hid (NmG.of (c := (0, y, 0)) (s := na) (in_gU (by simp <;> omega)) (by rw [← hna, ← hdy]; rfl))
                      have hN1 := Lib.hid (show NmL (tMs gs ms ++ tIa gs k x ++ tEW gs y) (fun c => (c.1 < 3 ∧ c.2.1 < x ∧ c.2.2 < k) ∨ ((c.1 = 3 ∨ c.1 = 4) ∧ c.2.1 < y ∧ c.2.2 = 0)) from (((nm_tMs_all hokH.out).mono fun c h => .inl ⟨by omega, h.2⟩).app ((nm_tIa x).mono fun c h => .inl ⟨by omega, h.2⟩)).app ((nm_tEW y).mono fun c h => .inr h))
                      have hfr1 := Lib.hid (hN1.out.fresh (d := (3, y, 0)) (nm := ne) (fun c hc => ⟨in_tU (by omega), fun e => by subst e; simp at hc⟩) (in_tU (by simp <;> omega)) hte.out)
                      have hN2 := Lib.hid (show NmL (tMs gs ms ++ tIa gs k x ++ tEW gs y ++ [tE gs y]) (fun c => ((c.1 < 3 ∧ c.2.1 < x ∧ c.2.2 < k) ∨ ((c.1 = 3 ∨ c.1 = 4) ∧ c.2.1 < y ∧ c.2.2 = 0)) ∨ (c.1 = 3 ∧ c.2.1 = y ∧ c.2.2 = 0)) from (hN1.out.mono fun c h => .inl h).app (NmL.one (.inr ⟨rfl, rfl, rfl⟩)))
                      have hfr2 := Lib.hid (hN2.out.fresh (d := (4, y, 0)) (nm := nw) (fun c hc => ⟨in_tU (by omega), fun e => by subst e; simp at hc⟩) (in_tU (by simp <;> omega)) htw.out)
                      have hlen := Lib.hid (show (tMs gs ms ++ tIa gs k x ++ tEW gs y).length ≤ 1000 by
                        have := hml.out
                        simp only [List.length_append, len_tMs, len_tIa, len_tIn, len_tEW, List.length_cons, List.length_nil]; omega)
                      have jb : Below wr.heap.size wr wr := bl_refl wr
                      clear hnw hne hna hdy
                      go_wp2_with fail
                      refine (lDecimal_n (u := y) _ (by omega) hdyH.out).mono ?_
                      rintro e w1 ⟨rfl, hb⟩
                      replace jb := jb.trans (hb.mono jb.size)
                      clear hb
                      go_wp2_with fail
                      refine (lDecimal_n (u := y) _ (by omega) hdyH.out).mono ?_
                      rintro e w2 ⟨rfl, hb⟩
                      replace jb := jb.trans (hb.mono jb.size)
                      clear hb
                      go_wp2_with fail
                      refine (lDecimal_n (u := y) _ (by omega) hdyH.out).mono ?_
                      rintro e w3 ⟨rfl, hb⟩
                      replace jb := jb.trans (hb.mono jb.size)
                      clear hb
                      go_wp2_with fail
                      refine (stile_cd (gs := gs) (ts := tMs gs ms ++ tIa gs k x ++ tEW gs y) (c := (3, y, 0)) (hM.out.below jb) hte.out (sd_some ka.out.eq) (sd_some kr.out.eq) (sd_some ka.out.eq) (sd_some kr.out.eq) hfr1.out hgl hlen.out).mono ?_
                      rintro e w6 ⟨⟨kk, rfl⟩, hM6, hF6, hB6⟩
                      have hM7 := Lib.hid hM6
                      have hfar7 := Lib.hid ((hfar.out.trans (Far.of_below jb)).trans hF6)
                      have bw7 := Lib.hid ((hbw.out.trans (jb.mono (show b ≤ wr.heap.size by omega))).trans hB6)
                      clear hM6 hF6 hB6 jb hM hfar hbw p0 p1 p2 lp hszl hlen
                      obtain ⟨wr, hwr⟩ : ∃ x : World, x = w6 := ⟨_, rfl⟩
                      subst hwr
                      have hM := hM7
                      have hfar := hfar7
                      have hbw := bw7
                      clear hM7 hfar7 bw7
                      have hszl := hbw.out.size
                      have p0 := (hbw.out.cell (p := ⟨p, 0, none⟩) hp).trans c0
                      have p1 := (hbw.out.cell (p := ⟨p, 1, none⟩) hp).trans c1
                      have p2 := (hbw.out.cell (p := ⟨p, 2, none⟩) hp).trans c2
                      have lp : p < wr.heap.size := by omega
                      replace hM : Hid (Sk wr b (gs, tMs gs ms ++ tIa gs k x ++ tEW gs y ++ [tE gs y])) := hM
                      have hlen := Lib.hid (show (tMs gs ms ++ tIa gs k x ++ tEW gs y ++ [tE gs y]).length ≤ 1000 by
                        have := hml.out
                        simp only [List.length_append, len_tMs, len_tIa, len_tIn, len_tEW, List.length_cons, List.length_nil]; omega)
                      have jb : Below wr.heap.size wr wr := bl_refl wr
                      go_wp2_with fail
                      refine (lDecimal_n (u := y) _ (by omega) hdyH.out).mono ?_
                      rintro e w1 ⟨rfl, hb⟩
                      replace jb := jb.trans (hb.mono jb.size)
                      clear hb
                      go_wp2_with fail
                      refine (lDecimal_n (u := y) _ (by omega) hdyH.out).mono ?_
                      rintro e w2 ⟨rfl, hb⟩
                      replace jb := jb.trans (hb.mono jb.size)
                      clear hb
                      go_wp2_with fail
                      refine (lDecimal_n (u := y) _ (by omega) hdyH.out).mono ?_
                      rintro e w3 ⟨rfl, hb⟩
                      replace jb := jb.trans (hb.mono jb.size)
                      clear hb
                      go_wp2_with fail
                      refine (stile_cd (gs := gs) (ts := tMs gs ms ++ tIa gs k x ++ tEW gs y ++ [tE gs y]) (c := (4, y, 0)) (hM.out.below jb) htw.out (sd_some ka.out.eq) (sd_some kl.out.eq) (sd_some ka.out.eq) (sd_some kl.out.eq) hfr2.out hgl hlen.out).mono ?_
                      rintro e w6 ⟨⟨kk, rfl⟩, hM6, hF6, hB6⟩
                      have hM7 := Lib.hid hM6
                      have hfar7 := Lib.hid ((hfar.out.trans (Far.of_below jb)).trans hF6)
                      have bw7 := Lib.hid ((hbw.out.trans (jb.mono (show b ≤ wr.heap.size by omega))).trans hB6)
                      clear hM6 hF6 hB6 jb hM hfar hbw p0 p1 p2 lp hszl hlen
                      go_wp2
                      go_roundg (k - (y + 1))
                      case measure => omega
                      case rel => exact ⟨y + 1, by omega, by go_num, Lib.hid (by rw [tEW, ← List.append_assoc, ← List.append_assoc]; exact hM7.out), hfar7, bw7⟩
                    · obtain rfl : y = k := by omega
                      have htl := Lib.hid (show tnm (5, 0, 0) = ⟨#[108, 101, 102, 116]⟩ from rfl)
                      have htr := Lib.hid (show tnm (6, 0, 0) = ⟨#[114, 105, 103, 104, 116]⟩ from rfl)
                      have hN1 := Lib.hid (show NmL (tMs gs ms ++ tIa gs y x ++ tEW gs y) (fun c => (c.1 < 3 ∧ c.2.1 < x ∧ c.2.2 < y) ∨ ((c.1 = 3 ∨ c.1 = 4) ∧ c.2.1 < y ∧ c.2.2 = 0)) from (((nm_tMs_all hokH.out).mono fun c h => .inl ⟨by omega, h.2⟩).app ((nm_tIa x).mono fun c h => .inl ⟨by omega, h.2⟩)).app ((nm_tEW y).mono fun c h => .inr h))
                      have hfr1 := Lib.hid (hN1.out.fresh (d := (5, 0, 0)) (fun c hc => ⟨in_tU (by omega), fun e => by subst e; simp at hc⟩) (in_tU (by simp)) htl.out)
                      have hN2 := Lib.hid (show NmL (tMs gs ms ++ tIa gs y x ++ tEW gs y ++ [tL gs]) (fun c => ((c.1 < 3 ∧ c.2.1 < x ∧ c.2.2 < y) ∨ ((c.1 = 3 ∨ c.1 = 4) ∧ c.2.1 < y ∧ c.2.2 = 0)) ∨ (c.1 = 5 ∧ c.2.1 = 0 ∧ c.2.2 = 0)) from (hN1.out.mono fun c h => .inl h).app (NmL.one (.inr ⟨rfl, rfl, rfl⟩)))
                      have hfr2 := Lib.hid (hN2.out.fresh (d := (6, 0, 0)) (fun c hc => ⟨in_tU (by omega), fun e => by subst e; simp at hc⟩) (in_tU (by simp)) htr.out)
                      have hlen := Lib.hid (show (tMs gs ms ++ tIa gs y x ++ tEW gs y).length ≤ 1000 by
                        have := hml.out
                        simp only [List.length_append, len_tMs, len_tIa, len_tIn, len_tEW, List.length_cons, List.length_nil]; omega)
                      have jb : Below wr.heap.size wr wr := bl_refl wr
                      go_wp2_with fail
                      refine (stile_cd (gs := gs) (ts := tMs gs ms ++ tIa gs y x ++ tEW gs y) (c := (5, 0, 0)) (hM.out.below jb) htl.out (sd_some kbl.out.eq) (sd_some kl.out.eq) (sd_some kbl.out.eq) (sd_none hem.out) hfr1.out hgl hlen.out).mono ?_
                      rintro e w6 ⟨⟨kk, rfl⟩, hM6, hF6, hB6⟩
                      have hM7 := Lib.hid hM6
                      have hfar7 := Lib.hid ((hfar.out.trans (Far.of_below jb)).trans hF6)
                      have bw7 := Lib.hid ((hbw.out.trans (jb.mono (show b ≤ wr.heap.size by omega))).trans hB6)
                      clear hM6 hF6 hB6 jb hM hfar hbw p0 p1 p2 lp hszl hlen
                      obtain ⟨wr, hwr⟩ : ∃ x : World, x = w6 := ⟨_, rfl⟩
                      subst hwr
                      have hM := hM7
                      have hfar := hfar7
                      have hbw := bw7
                      clear hM7 hfar7 bw7
                      have hszl := hbw.out.size
                      have p0 := (hbw.out.cell (p := ⟨p, 0, none⟩) hp).trans c0
                      have p1 := (hbw.out.cell (p := ⟨p, 1, none⟩) hp).trans c1
                      have p2 := (hbw.out.cell (p := ⟨p, 2, none⟩) hp).trans c2
                      have lp : p < wr.heap.size := by omega
                      replace hM : Hid (Sk wr b (gs, tMs gs ms ++ tIa gs y x ++ tEW gs y ++ [tL gs])) := hM
                      have hlen := Lib.hid (show (tMs gs ms ++ tIa gs y x ++ tEW gs y ++ [tL gs]).length ≤ 1000 by
                        have := hml.out
                        simp only [List.length_append, len_tMs, len_tIa, len_tIn, len_tEW, List.length_cons, List.length_nil]; omega)
                      have jb : Below wr.heap.size wr wr := bl_refl wr
                      go_wp2_with fail
                      refine (stile_cd (gs := gs) (ts := tMs gs ms ++ tIa gs y x ++ tEW gs y ++ [tL gs]) (c := (6, 0, 0)) (hM.out.below jb) htr.out (sd_some kbr.out.eq) (sd_none hem.out) (sd_some kbr.out.eq) (sd_some kr.out.eq) hfr2.out hgl hlen.out).mono ?_
                      rintro e w6 ⟨⟨kk, rfl⟩, hM6, hF6, hB6⟩
                      have hM7 := Lib.hid hM6
                      have hfar7 := Lib.hid ((hfar.out.trans (Far.of_below jb)).trans hF6)
                      have bw7 := Lib.hid ((hbw.out.trans (jb.mono (show b ≤ wr.heap.size by omega))).trans hB6)
                      clear hM6 hF6 hB6 jb hM hfar hbw p0 p1 p2 lp hszl hlen
                      go_wp2
                      refine bodyPost_end (v := .tuple #[]) (by simp only [results, Tryd.results21]; go_simp) rfl ?_
                      rw [hgsH.out]
                      exact ⟨rfl, hM7.out, hfar7.out, bw7.out⟩
end Go.Proofs.YtkiamhpapkgboaaDoor
