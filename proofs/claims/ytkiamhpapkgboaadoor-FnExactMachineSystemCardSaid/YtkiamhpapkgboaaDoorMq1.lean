/- Walks: the program's glues of a machine. -/
import Derived.Test.YtkiamhpapkgboaaDoorMm2
import Derived.Test.YtkiamhpapkgboaaDoorKQ
import Derived.Test.YtkiamhpapkgboaaDoorDn
namespace Go.Proofs.YtkiamhpapkgboaaDoor
open Go.RowKit Go.Shelf
set_option linter.unusedSimpArgs false
set_option linter.unusedVariables false
attribute [local go_sem] BelowBy.cell BelowBy.cell_drew stillUpon givesUpon

/-- a box with its type -/
def BxT (w : World) (k : Nat) (T : TypeId) (l : List Value) : Prop := Bx w k l ∧ ∃ M f, w.rowIs k T M f
theorem BxT.made (w : World) (l : List Value) (T : TypeId) : BxT (w.alloc (.cells l.toArray T)) w.heap.size T l := ⟨Bx.made w l T, rowIs_made w l T⟩
theorem BxT.below {w w' : World} {k : Nat} {T : TypeId} {l : List Value} (h : BxT w k T l) (hb : Below w.heap.size w w') : BxT w' k T l := by
  obtain ⟨h1, M, f, hr⟩ := h
  exact ⟨h1.below hb, M, f, hr.of_block (hb.block k hr.lt)⟩
theorem BxT.far {Ts : List TypeId} {w w' : World} {k B : Nat} {T : TypeId} {l : List Value} (h : BxT w k T l) (hf : Far Ts w w') (hT : T ∉ Ts) (hs : Below B w w') : BxT w' k T l := by
  obtain ⟨h1, M, f, hr⟩ := h
  exact ⟨h1.far hr hf hT hs.size, M, f, rowIs_far hr hf hT⟩
/-- the table of powers stands, whatever is laid behind B -/
def TabB (B : Nat) (w : World) : Prop := ∀ w', Below B w w' → Tab w'
theorem TabB.below {B : Nat} {w w' : World} (h : TabB B w) (hb : Below B w w') : TabB B w' := fun w2 h2 => h w2 (hb.trans h2)
theorem TabB.here {B : Nat} {w : World} (h : TabB B w) : Tab w := h w (Below.refl _ _)
theorem TabB.of {w w' : World} {B : Nat} (h : Tab w) (hb : Below w.heap.size w w') (hB : w.heap.size ≤ B) : TabB B w' := fun w2 h2 => h.below (hb.trans (h2.mono hB))
/-- codes of a machine's glues -/
def cA (n : Nat) : List Cd := (List.range n).map fun i => (0, i, 0)
def cH (q n : Nat) : List Cd := (List.range n).map fun i => (2, q, i)
def cM (S : Nat) : Nat → List Cd
  | 0 => []
  | q + 1 => cM S q ++ ((1, q, 0) :: cH q S)
def cB (n : Nat) : List Cd := (List.range n).map fun i => (3 + i, 0, 0)
def cZ (n : Nat) : List Cd := (List.range n).map fun i => (7, i, 0)
def cG (Q S : Nat) : List Cd := cA S ++ cM S Q ++ cB 4
theorem cB_succ (n : Nat) : cB (n + 1) = cB n ++ [(3 + n, 0, 0)] := by simp [cB, List.range_succ]
theorem cZ_succ (n : Nat) : cZ (n + 1) = cZ n ++ [(7, n, 0)] := by simp [cZ, List.range_succ]
theorem len_cB (n : Nat) : (cB n).length = n := by simp [cB]
theorem len_cZ (n : Nat) : (cZ n).length = n := by simp [cZ]
theorem mem_cB {n : Nat} {c : Cd} : c ∈ cB n ↔ 3 ≤ c.1 ∧ c.1 < 3 + n ∧ c.2.1 = 0 ∧ c.2.2 = 0 := by
  obtain ⟨k, x, y⟩ := c
  simp only [cB, List.mem_map, List.mem_range, Prod.mk.injEq]
  constructor
  · rintro ⟨i, hi, rfl, rfl, rfl⟩; omega
  · rintro ⟨h1, h2, rfl, rfl⟩; exact ⟨k - 3, by omega, by omega, rfl, rfl⟩
theorem mem_cZ {n : Nat} {c : Cd} : c ∈ cZ n ↔ c.1 = 7 ∧ c.2.1 < n ∧ c.2.2 = 0 := by
  obtain ⟨k, x, y⟩ := c
  simp only [cZ, List.mem_map, List.mem_range, Prod.mk.injEq]
  constructor
  · rintro ⟨i, hi, rfl, rfl, rfl⟩; exact ⟨rfl, hi, rfl⟩
  · rintro ⟨rfl, h, rfl⟩; exact ⟨x, h, rfl, rfl, rfl⟩
theorem cA_succ (n : Nat) : cA (n + 1) = cA n ++ [(0, n, 0)] := by simp [cA, List.range_succ]
theorem cH_succ (q n : Nat) : cH q (n + 1) = cH q n ++ [(2, q, n)] := by simp [cH, List.range_succ]
theorem mem_cA {n : Nat} {c : Cd} : c ∈ cA n ↔ c.1 = 0 ∧ c.2.1 < n ∧ c.2.2 = 0 := by
  obtain ⟨k, x, y⟩ := c
  simp only [cA, List.mem_map, List.mem_range, Prod.mk.injEq]
  constructor
  · rintro ⟨i, hi, rfl, rfl, rfl⟩; exact ⟨rfl, hi, rfl⟩
  · rintro ⟨rfl, h, rfl⟩; exact ⟨x, h, rfl, rfl, rfl⟩
theorem mem_cH {q n : Nat} {c : Cd} : c ∈ cH q n ↔ c.1 = 2 ∧ c.2.1 = q ∧ c.2.2 < n := by
  obtain ⟨k, x, y⟩ := c
  simp only [cH, List.mem_map, List.mem_range, Prod.mk.injEq]
  constructor
  · rintro ⟨i, hi, rfl, rfl, rfl⟩; exact ⟨rfl, rfl, hi⟩
  · rintro ⟨rfl, rfl, h⟩; exact ⟨y, h, rfl, rfl, rfl⟩
theorem mem_cM {S : Nat} {c : Cd} : ∀ {q : Nat}, c ∈ cM S q ↔ (c.1 = 1 ∧ c.2.1 < q ∧ c.2.2 = 0) ∨ (c.1 = 2 ∧ c.2.1 < q ∧ c.2.2 < S)
  | 0 => by simp [cM]
  | q + 1 => by
    obtain ⟨k, x, y⟩ := c
    simp only [cM, List.mem_append, List.mem_cons, mem_cM (q := q), mem_cH, Prod.mk.injEq]
    omega
theorem len_cA (n : Nat) : (cA n).length = n := by simp [cA]
theorem len_cH (q n : Nat) : (cH q n).length = n := by simp [cH]
theorem len_cM (S : Nat) : ∀ q, (cM S q).length = q * (S + 1)
  | 0 => by simp [cM]
  | q + 1 => by
    rw [cM, List.length_append, len_cM S q, List.length_cons, len_cH, Nat.succ_mul]
theorem in_gU {c : Cd} (h : (c.1 = 0 ∧ c.2.1 < 4 ∧ c.2.2 = 0) ∨ (c.1 = 1 ∧ c.2.1 < 5 ∧ c.2.2 = 0) ∨ (c.1 = 2 ∧ c.2.1 < 5 ∧ c.2.2 < 4) ∨ (3 ≤ c.1 ∧ c.1 ≤ 6 ∧ c.2.1 = 0 ∧ c.2.2 = 0) ∨ (c.1 = 7 ∧ c.2.1 < 13 ∧ c.2.2 = 0)) : c ∈ gU := (gU_mem c).2 h
/-- one glue more -/
theorem addG_cd (cs : List Cd) (ts : List Ti) (c : Cd) {nm : ByteArray} {s : Int} (hn : gnm c = nm) (hs : gst c = s) : addG (glG cs, ts) nm s = (glG (cs ++ [c]), ts) := by
  unfold addG
  rw [glG_snoc, hn, hs]
set_option maxRecDepth 100000 in
set_option maxHeartbeats 4000000 in
theorem glues_any (b bm Q S mn mc : Nat) (MA : Option Addr) (w : World) (h : Mkr w b bm ([], [])) (hQ : Q ≤ 5) (hS : S ≤ 4) (hT : TabB bm w) :
    Calls Tryd.prog 52 #[.agg #[.pointer (some ⟨b, 0, none⟩), .int .i64 (Q : Int), .int .i64 (S : Int), .slice MA mn mc]] w fun e w' => e = .returned (.tuple #[]) ∧ Mkr w' b bm (glG (cG Q S), []) ∧ Far MkTs w w' ∧ Below bm w w' := by
  have hlt := h.lt
  have hH := Lib.hid h
  have hTH := Lib.hid hT
  clear h hT
  obtain ⟨P, hP⟩ : ∃ P, P = w.heap.size := ⟨_, rfl⟩
  have hbP : b < P := by omega
  go_enter Tryd.func52, Tryd.ntmps52
  go_wp2
  go_loopg [10] S (fun g i wr => ∃ (k : Nat), k + g = S ∧ i = .int .i64 (k : Int) ∧ Hid (Mkr wr b bm (glG (cA k), [])) ∧ Hid (BxT wr w.heap.size 104 [.pointer (some ⟨b, 0, none⟩), .int .i64 (Q : Int), .int .i64 (S : Int), .slice MA mn mc]) ∧ Hid (Far MkTs w wr) ∧ Hid (Below bm w wr))
  case atStart => exact ⟨0, by omega, rfl, Lib.hid (hH.out.below (bl_al (bl_refl _) _)), Lib.hid (BxT.made w [.pointer (some ⟨b, 0, none⟩), .int .i64 (Q : Int), .int .i64 (S : Int), .slice MA mn mc] _), Lib.hid (Far.of_below (bl_al (bl_refl _) _)), Lib.hid ((bl_al (bl_refl w) _).mono (by omega))⟩
  case round =>
    obtain ⟨k, hk, rfl, hM, bX, hfar, hbw⟩ := hrel
    have hszl := hbw.out.size
    have x0 := bX.out.1.cell 0 _ rfl
    have x1 := bX.out.1.cell 1 _ rfl
    have x2 := bX.out.1.cell 2 _ rfl
    have lx := bX.out.1.lt
    have hTr := Lib.hid (hTH.out.below hbw.out)
    by_cases hkn : k < S
    · obtain ⟨nm, hnm⟩ : ∃ nm, (⟨#[97]⟩ : ByteArray) ++ decN k = nm := ⟨_, rfl⟩
      have hgnH := Lib.hid (show gnm (0, k, 0) = nm by rw [← hnm]; rfl)
      have hfrH := Lib.hid (show numG (glG (cA k)) nm = 0 by
        rw [← hgnH.out]
        exact fresh_g (fun d hd => in_gU (by simp only [List.mem_append, List.mem_cons, List.not_mem_nil, mem_cA, mem_cM, mem_cH, mem_cB, mem_cZ, Prod.ext_iff] at hd; omega)) (in_gU (by simp <;> omega)) (by simp only [List.mem_append, List.mem_cons, List.not_mem_nil, mem_cA, mem_cM, mem_cH, mem_cB, mem_cZ, Prod.ext_iff]; omega))
      have hlenH := Lib.hid (show (glG (cA k)).length ≤ 1000 by
        rw [glG_len]; simp only [List.length_append, List.length_cons, List.length_nil, len_cA, len_cM, len_cH, len_cB, len_cZ]; omega)
      have hnz : nm.size ≤ 1000 := by rw [← hgnH.out]; have := gnm_size (c := (0, k, 0)) (in_gU (by simp <;> omega)); omega
      have hnmH := Lib.hid hnm
      clear hnm
      go_wp2_with fail
      refine wp_region_ord [(0, .q), (1, .q), (2, .q), (3, .g), (4, .b)] (by kernel_rfl) (by kernel_rfl) ?_
      simp only [pick, List.filterMap_cons, List.filterMap_nil, List.getElem?_toArray, List.getElem?_cons_zero, List.getElem?_cons_succ, Option.map_some]
      repeat (first | ((with_reducible refine wpD_p (fun K hK => ?_)); go_simp; refine hK _ ?_; clear hK K) | ((with_reducible refine wpD_q (fun K hK => ?_)); go_simp; (first | refine hK _ ?_ | (go_bits; refine hK _ ?_) | (go_bits; go_simp; refine hK _ ?_)); clear hK K))
      with_reducible refine wpD_g (fun K hK => ?_)
      go_simp
      refine (numbered_n (u := k) _ (by decide) (by omega) (hTr.out.here.below (bl_dr (bl_refl _))) hnmH.out).mono ?_
      rintro e w5 ⟨rfl, hb5⟩
      refine ⟨_, rfl, hb5, hK _ _ ?_⟩
      clear hK K
      have hb5w : Below wr.heap.size wr w5 := (bl_dr (bl_refl _)).trans (hb5.mono (by simp))
      repeat (first | ((with_reducible refine wpD_p (fun K hK => ?_)); go_simp; refine hK _ ?_; clear hK K) | ((with_reducible refine wpD_q (fun K hK => ?_)); go_simp; (first | refine hK _ ?_ | (go_bits; refine hK _ ?_) | (go_bits; go_simp; refine hK _ ?_)); clear hK K))
      with_reducible refine wpD_b (fun K hK => ?_)
      go_simp
      refine (glue_any b bm (glG (cA k), []) nm 1 w5 (hM.out.below hb5w) hfrH.out hnz hlenH.out).mono ?_
      rintro e w6 ⟨rfl, hM6, hF6, hB6⟩
      refine ⟨_, rfl, hK _ _ ?_⟩
      clear hK K
      with_reducible refine wpD_nil ?_
      rw [addG_cd (s := 1) _ _ (0, k, 0) hgnH.out (by simp [gst])] at hM6
      have hM7 := Lib.hid hM6
      have hfar7 := Lib.hid ((hfar.out.trans (Far.of_below hb5w)).trans hF6)
      have bw7 := Lib.hid ((hbw.out.trans (hb5w.mono (show bm ≤ wr.heap.size by omega))).trans hB6)
      have bX7 := Lib.hid ((bX.out.below hb5w).far hF6 (by decide) hB6)
      clear hM6 hF6 hB6 hb5 hb5w hM bX hfar hbw x0 x1 x2 lx hnz hgnH hfrH hlenH hnmH
      go_wp2
      go_roundg (S - (k + 1))
      case measure => omega
      case rel => exact ⟨k + 1, by omega, by go_num, by rw [cA_succ]; exact hM7, bX7, hfar7, bw7⟩
    · obtain rfl : k = S := by omega
      go_wp2
      go_loopg [22] Q (fun g i wr => ∃ (q : Nat), q + g = Q ∧ i = .int .i64 (q : Int) ∧ Hid (Mkr wr b bm (glG (cA k ++ cM k q), [])) ∧ Hid (BxT wr w.heap.size 104 [.pointer (some ⟨b, 0, none⟩), .int .i64 (Q : Int), .int .i64 (k : Int), .slice MA mn mc]) ∧ Hid (Far MkTs w wr) ∧ Hid (Below bm w wr))
      case atStart => exact ⟨0, by omega, rfl, by simp only [cM, List.append_nil]; exact hM, bX, hfar, hbw⟩
      case round =>
        clear hM bX hfar hbw hszl x0 x1 x2 lx hTr
        obtain ⟨q, hq, rfl, hM, bX, hfar, hbw⟩ := hrel
        have hszl := hbw.out.size
        have x0 := bX.out.1.cell 0 _ rfl
        have x1 := bX.out.1.cell 1 _ rfl
        have x2 := bX.out.1.cell 2 _ rfl
        have lx := bX.out.1.lt
        have hTr := Lib.hid (hTH.out.below hbw.out)
        by_cases hqn : q < Q
        · have hmul : q * (k + 1) ≤ 5 * 5 := Nat.mul_le_mul (by omega) (by omega)
          obtain ⟨nm, hnm⟩ : ∃ nm, (⟨#[109]⟩ : ByteArray) ++ decN q = nm := ⟨_, rfl⟩
          have hgnH := Lib.hid (show gnm (1, q, 0) = nm by rw [← hnm]; rfl)
          have hfrH := Lib.hid (show numG (glG (cA k ++ cM k q)) nm = 0 by
            rw [← hgnH.out]
            exact fresh_g (fun d hd => in_gU (by simp only [List.mem_append, List.mem_cons, List.not_mem_nil, mem_cA, mem_cM, mem_cH, mem_cB, mem_cZ, Prod.ext_iff] at hd; omega)) (in_gU (by simp <;> omega)) (by simp only [List.mem_append, List.mem_cons, List.not_mem_nil, mem_cA, mem_cM, mem_cH, mem_cB, mem_cZ, Prod.ext_iff]; omega))
          have hlenH := Lib.hid (show (glG (cA k ++ cM k q)).length ≤ 1000 by
            rw [glG_len]; simp only [List.length_append, List.length_cons, List.length_nil, len_cA, len_cM, len_cH, len_cB, len_cZ]; omega)
          have hnz : nm.size ≤ 1000 := by rw [← hgnH.out]; have := gnm_size (c := (1, q, 0)) (in_gU (by simp <;> omega)); omega
          have hnmH := Lib.hid hnm
          clear hnm
          go_wp2_with fail
          refine wp_region_ord [(0, .q), (1, .q), (2, .q), (3, .g), (4, .b)] (by kernel_rfl) (by kernel_rfl) ?_
          simp only [pick, List.filterMap_cons, List.filterMap_nil, List.getElem?_toArray, List.getElem?_cons_zero, List.getElem?_cons_succ, Option.map_some]
          repeat (first | ((with_reducible refine wpD_p (fun K hK => ?_)); go_simp; refine hK _ ?_; clear hK K) | ((with_reducible refine wpD_q (fun K hK => ?_)); go_simp; (first | refine hK _ ?_ | (go_bits; refine hK _ ?_) | (go_bits; go_simp; refine hK _ ?_)); clear hK K))
          with_reducible refine wpD_g (fun K hK => ?_)
          go_simp
          refine (numbered_n (u := q) _ (by decide) (by omega) (hTr.out.here.below (bl_dr (bl_refl _))) hnmH.out).mono ?_
          rintro e w5 ⟨rfl, hb5⟩
          refine ⟨_, rfl, hb5, hK _ _ ?_⟩
          clear hK K
          have hb5w : Below wr.heap.size wr w5 := (bl_dr (bl_refl _)).trans (hb5.mono (by simp))
          repeat (first | ((with_reducible refine wpD_p (fun K hK => ?_)); go_simp; refine hK _ ?_; clear hK K) | ((with_reducible refine wpD_q (fun K hK => ?_)); go_simp; (first | refine hK _ ?_ | (go_bits; refine hK _ ?_) | (go_bits; go_simp; refine hK _ ?_)); clear hK K))
          with_reducible refine wpD_b (fun K hK => ?_)
          go_simp
          refine (glue_any b bm (glG (cA k ++ cM k q), []) nm 1 w5 (hM.out.below hb5w) hfrH.out hnz hlenH.out).mono ?_
          rintro e w6 ⟨rfl, hM6, hF6, hB6⟩
          refine ⟨_, rfl, hK _ _ ?_⟩
          clear hK K
          with_reducible refine wpD_nil ?_
          rw [addG_cd (s := 1) _ _ (1, q, 0) hgnH.out (by simp [gst])] at hM6
          have hM7 := Lib.hid hM6
          have hfar7 := Lib.hid ((hfar.out.trans (Far.of_below hb5w)).trans hF6)
          have bw7 := Lib.hid ((hbw.out.trans (hb5w.mono (show bm ≤ wr.heap.size by omega))).trans hB6)
          have bX7 := Lib.hid ((bX.out.below hb5w).far hF6 (by decide) hB6)
          clear hM6 hF6 hB6 hb5 hb5w hM bX hfar hbw x0 x1 x2 lx hnz hgnH hfrH hlenH hnmH
          have x0 := bX7.out.1.cell 0 _ rfl
          have x1 := bX7.out.1.cell 1 _ rfl
          have x2 := bX7.out.1.cell 2 _ rfl
          have lx := bX7.out.1.lt
          clear hTr hszl
          go_wp2
          go_loopg [33] k (fun g i wr => ∃ (i0 : Nat), i0 + g = k ∧ i = .int .i64 (i0 : Int) ∧ Hid (Mkr wr b bm (glG (cA k ++ cM k q ++ (1, q, 0) :: cH q i0), [])) ∧ Hid (BxT wr w.heap.size 104 [.pointer (some ⟨b, 0, none⟩), .int .i64 (Q : Int), .int .i64 (k : Int), .slice MA mn mc]) ∧ Hid (Far MkTs w wr) ∧ Hid (Below bm w wr))
          case atStart => exact ⟨0, by omega, rfl, hM7, bX7, hfar7, bw7⟩
          case round =>
            clear hM7 bX7 hfar7 bw7 x0 x1 x2 lx
            obtain ⟨i0, hi0, rfl, hM, bX, hfar, hbw⟩ := hrel
            have hszl := hbw.out.size
            have x0 := bX.out.1.cell 0 _ rfl
            have x1 := bX.out.1.cell 1 _ rfl
            have x2 := bX.out.1.cell 2 _ rfl
            have lx := bX.out.1.lt
            have hTr := Lib.hid (hTH.out.below hbw.out)
            by_cases hin : i0 < k
            · obtain ⟨nm, hnm⟩ : ∃ nm, pairN ⟨#[104]⟩ q i0 = nm := ⟨_, rfl⟩
              have hgnH := Lib.hid (show gnm (2, q, i0) = nm by rw [← hnm]; rfl)
              have hfrH := Lib.hid (show numG (glG (cA k ++ cM k q ++ (1, q, 0) :: cH q i0)) nm = 0 by
                rw [← hgnH.out]
                exact fresh_g (fun d hd => in_gU (by simp only [List.mem_append, List.mem_cons, List.not_mem_nil, mem_cA, mem_cM, mem_cH, mem_cB, mem_cZ, Prod.ext_iff] at hd; omega)) (in_gU (by simp <;> omega)) (by simp only [List.mem_append, List.mem_cons, List.not_mem_nil, mem_cA, mem_cM, mem_cH, mem_cB, mem_cZ, Prod.ext_iff]; omega))
              have hlenH := Lib.hid (show (glG (cA k ++ cM k q ++ (1, q, 0) :: cH q i0)).length ≤ 1000 by
                rw [glG_len]; simp only [List.length_append, List.length_cons, List.length_nil, len_cA, len_cM, len_cH, len_cB, len_cZ]; omega)
              have hnz : nm.size ≤ 1000 := by rw [← hgnH.out]; have := gnm_size (c := (2, q, i0)) (in_gU (by simp <;> omega)); omega
              have hnmH := Lib.hid hnm
              clear hnm
              go_wp2_with fail
              refine wp_region_ord [(0, .q), (1, .q), (2, .q), (3, .q), (4, .g), (5, .b)] (by kernel_rfl) (by kernel_rfl) ?_
              simp only [pick, List.filterMap_cons, List.filterMap_nil, List.getElem?_toArray, List.getElem?_cons_zero, List.getElem?_cons_succ, Option.map_some]
              repeat (first | ((with_reducible refine wpD_p (fun K hK => ?_)); go_simp; refine hK _ ?_; clear hK K) | ((with_reducible refine wpD_q (fun K hK => ?_)); go_simp; (first | refine hK _ ?_ | (go_bits; refine hK _ ?_) | (go_bits; go_simp; refine hK _ ?_)); clear hK K))
              with_reducible refine wpD_g (fun K hK => ?_)
              go_simp
              refine (paired_n (a := q) (b := i0) _ (by decide) (by omega) (by omega) (hTr.out.here.below (bl_dr (bl_refl _))) hnmH.out).mono ?_
              rintro e w5 ⟨rfl, hb5⟩
              refine ⟨_, rfl, hb5, hK _ _ ?_⟩
              clear hK K
              have hb5w : Below wr.heap.size wr w5 := (bl_dr (bl_refl _)).trans (hb5.mono (by simp))
              repeat (first | ((with_reducible refine wpD_p (fun K hK => ?_)); go_simp; refine hK _ ?_; clear hK K) | ((with_reducible refine wpD_q (fun K hK => ?_)); go_simp; (first | refine hK _ ?_ | (go_bits; refine hK _ ?_) | (go_bits; go_simp; refine hK _ ?_)); clear hK K))
              with_reducible refine wpD_b (fun K hK => ?_)
              go_simp
              refine (glue_any b bm (glG (cA k ++ cM k q ++ (1, q, 0) :: cH q i0), []) nm 2 w5 (hM.out.below hb5w) hfrH.out hnz hlenH.out).mono ?_
              rintro e w6 ⟨rfl, hM6, hF6, hB6⟩
              refine ⟨_, rfl, hK _ _ ?_⟩
              clear hK K
              with_reducible refine wpD_nil ?_
              rw [addG_cd (s := 2) _ _ (2, q, i0) hgnH.out (by simp [gst])] at hM6
              have hM7 := Lib.hid hM6
              have hfar7 := Lib.hid ((hfar.out.trans (Far.of_below hb5w)).trans hF6)
              have bw7 := Lib.hid ((hbw.out.trans (hb5w.mono (show bm ≤ wr.heap.size by omega))).trans hB6)
              have bX7 := Lib.hid ((bX.out.below hb5w).far hF6 (by decide) hB6)
              clear hM6 hF6 hB6 hb5 hb5w hM bX hfar hbw x0 x1 x2 lx hnz hgnH hfrH hlenH hnmH
              go_wp2
              go_roundg (k - (i0 + 1))
              case measure => omega
              case rel => exact ⟨i0 + 1, by omega, by go_num, by rw [cH_succ, ← List.cons_append, ← List.append_assoc]; exact hM7, bX7, hfar7, bw7⟩
            · obtain rfl : i0 = k := by omega
              go_wp2
              go_roundg (Q - (q + 1))
              case measure => omega
              case rel => exact ⟨q + 1, by omega, by go_num, by rw [cM, ← List.append_assoc]; exact hM, bX, hfar, hbw⟩
        · obtain rfl : q = Q := by omega
          have hmul : q * (k + 1) ≤ 5 * 5 := Nat.mul_le_mul (by omega) (by omega)
          have hal : Below wr.heap.size wr (wr.alloc (Obj.cells #[.string ⟨#[108]⟩, .string ⟨#[114]⟩, .string ⟨#[98, 108]⟩, .string ⟨#[98, 114]⟩] 9)) := bl_al (bl_refl _) _
          have bN := Lib.hid (BxT.made wr [.string ⟨#[108]⟩, .string ⟨#[114]⟩, .string ⟨#[98, 108]⟩, .string ⟨#[98, 114]⟩] 9)
          have hM2 := Lib.hid (hM.out.below hal)
          have bX2 := Lib.hid (bX.out.below hal)
          have hfar2 := Lib.hid (hfar.out.trans (Far.of_below hal))
          have bw2 := Lib.hid (hbw.out.trans (hal.mono (show bm ≤ wr.heap.size by omega)))
          clear hal hM bX hfar hbw x0 x1 x2 lx hTr hszl
          go_wp2
          obtain ⟨W0, hW0⟩ : ∃ W0 : World, W0 = wr := ⟨_, rfl⟩
          subst hW0
          go_loopg [46] 4 (fun g i wr => ∃ (t : Nat), t + g = 4 ∧ i = .int .i64 (t : Int) ∧ Hid (Mkr wr b bm (glG (cA k ++ cM k q ++ cB t), [])) ∧ Hid (BxT wr w.heap.size 104 [.pointer (some ⟨b, 0, none⟩), .int .i64 (q : Int), .int .i64 (k : Int), .slice MA mn mc]) ∧ Hid (Far MkTs w wr) ∧ Hid (Below bm w wr) ∧ Hid (BxT wr W0.heap.size 9 [.string ⟨#[108]⟩, .string ⟨#[114]⟩, .string ⟨#[98, 108]⟩, .string ⟨#[98, 114]⟩]))
          case atStart => exact ⟨0, by omega, rfl, by simp only [cB, List.range_zero, List.map_nil, List.append_nil]; exact hM2, bX2, hfar2, bw2, bN⟩
          case round =>
            clear hM2 bX2 hfar2 bw2 bN
            obtain ⟨t, ht, rfl, hM, bX, hfar, hbw, bN⟩ := hrel
            have hszl := hbw.out.size
            have x0 := bX.out.1.cell 0 _ rfl
            have x1 := bX.out.1.cell 1 _ rfl
            have x2 := bX.out.1.cell 2 _ rfl
            have lx := bX.out.1.lt
            have hTr := Lib.hid (hTH.out.below hbw.out)
            have lN := bN.out.1.lt
            by_cases htn : t < 4
            · rcases (show t = 0 ∨ t = 1 ∨ t = 2 ∨ t = 3 by omega) with rfl | rfl | rfl | rfl
              · have cN := bN.out.1.cell 0 _ rfl
                obtain ⟨nm, hnm⟩ : ∃ nm : ByteArray, ⟨#[108]⟩ = nm := ⟨_, rfl⟩
                rw [hnm] at cN
                have hgnH := Lib.hid (show gnm (3 + 0, 0, 0) = nm by rw [← hnm]; rfl)
                have hfrH := Lib.hid (show numG (glG (cA k ++ cM k q ++ cB 0)) nm = 0 by
                  rw [← hgnH.out]
                  exact fresh_g (fun d hd => in_gU (by simp only [List.mem_append, mem_cA, mem_cM, mem_cB] at hd; omega)) (in_gU (by simp)) (by simp only [List.mem_append, mem_cA, mem_cM, mem_cB]; omega))
                have hlenH := Lib.hid (show (glG (cA k ++ cM k q ++ cB 0)).length ≤ 1000 by
                  rw [glG_len]; simp only [List.length_append, len_cA, len_cM, len_cB]; omega)
                have hnz : nm.size ≤ 1000 := by rw [← hnm]; decide
                clear hnm
                go_wp2_with (go_at_call 71; refine (glue_any b bm (glG (cA k ++ cM k q ++ cB 0), []) nm 1 _ hM.out hfrH.out hnz hlenH.out).mono ?_; rintro e w6 ⟨rfl, hM6, hF6, hB6⟩; rw [addG_cd (s := 1) _ _ (3 + 0, 0, 0) hgnH.out (by simp [gst])] at hM6; have hM7 := Lib.hid hM6; have hfar7 := Lib.hid (hfar.out.trans hF6); have bw7 := Lib.hid (hbw.out.trans hB6); have bX7 := Lib.hid (bX.out.far hF6 (by decide) hB6); have bN7 := Lib.hid (bN.out.far hF6 (by decide) hB6); clear hM6 hF6 hB6)
                go_roundg (4 - (0 + 1))
                case measure => omega
                case rel => exact ⟨0 + 1, by omega, by go_num, by rw [cB_succ, ← List.append_assoc]; exact hM7, bX7, hfar7, bw7, bN7⟩
              · have cN := bN.out.1.cell 1 _ rfl
                obtain ⟨nm, hnm⟩ : ∃ nm : ByteArray, ⟨#[114]⟩ = nm := ⟨_, rfl⟩
                rw [hnm] at cN
                have hgnH := Lib.hid (show gnm (3 + 1, 0, 0) = nm by rw [← hnm]; rfl)
                have hfrH := Lib.hid (show numG (glG (cA k ++ cM k q ++ cB 1)) nm = 0 by
                  rw [← hgnH.out]
                  exact fresh_g (fun d hd => in_gU (by simp only [List.mem_append, mem_cA, mem_cM, mem_cB] at hd; omega)) (in_gU (by simp)) (by simp only [List.mem_append, mem_cA, mem_cM, mem_cB]; omega))
                have hlenH := Lib.hid (show (glG (cA k ++ cM k q ++ cB 1)).length ≤ 1000 by
                  rw [glG_len]; simp only [List.length_append, len_cA, len_cM, len_cB]; omega)
                have hnz : nm.size ≤ 1000 := by rw [← hnm]; decide
                clear hnm
                go_wp2_with (go_at_call 71; refine (glue_any b bm (glG (cA k ++ cM k q ++ cB 1), []) nm 1 _ hM.out hfrH.out hnz hlenH.out).mono ?_; rintro e w6 ⟨rfl, hM6, hF6, hB6⟩; rw [addG_cd (s := 1) _ _ (3 + 1, 0, 0) hgnH.out (by simp [gst])] at hM6; have hM7 := Lib.hid hM6; have hfar7 := Lib.hid (hfar.out.trans hF6); have bw7 := Lib.hid (hbw.out.trans hB6); have bX7 := Lib.hid (bX.out.far hF6 (by decide) hB6); have bN7 := Lib.hid (bN.out.far hF6 (by decide) hB6); clear hM6 hF6 hB6)
                go_roundg (4 - (1 + 1))
                case measure => omega
                case rel => exact ⟨1 + 1, by omega, by go_num, by rw [cB_succ, ← List.append_assoc]; exact hM7, bX7, hfar7, bw7, bN7⟩
              · have cN := bN.out.1.cell 2 _ rfl
                obtain ⟨nm, hnm⟩ : ∃ nm : ByteArray, ⟨#[98, 108]⟩ = nm := ⟨_, rfl⟩
                rw [hnm] at cN
                have hgnH := Lib.hid (show gnm (3 + 2, 0, 0) = nm by rw [← hnm]; rfl)
                have hfrH := Lib.hid (show numG (glG (cA k ++ cM k q ++ cB 2)) nm = 0 by
                  rw [← hgnH.out]
                  exact fresh_g (fun d hd => in_gU (by simp only [List.mem_append, mem_cA, mem_cM, mem_cB] at hd; omega)) (in_gU (by simp)) (by simp only [List.mem_append, mem_cA, mem_cM, mem_cB]; omega))
                have hlenH := Lib.hid (show (glG (cA k ++ cM k q ++ cB 2)).length ≤ 1000 by
                  rw [glG_len]; simp only [List.length_append, len_cA, len_cM, len_cB]; omega)
                have hnz : nm.size ≤ 1000 := by rw [← hnm]; decide
                clear hnm
                go_wp2_with (go_at_call 71; refine (glue_any b bm (glG (cA k ++ cM k q ++ cB 2), []) nm 1 _ hM.out hfrH.out hnz hlenH.out).mono ?_; rintro e w6 ⟨rfl, hM6, hF6, hB6⟩; rw [addG_cd (s := 1) _ _ (3 + 2, 0, 0) hgnH.out (by simp [gst])] at hM6; have hM7 := Lib.hid hM6; have hfar7 := Lib.hid (hfar.out.trans hF6); have bw7 := Lib.hid (hbw.out.trans hB6); have bX7 := Lib.hid (bX.out.far hF6 (by decide) hB6); have bN7 := Lib.hid (bN.out.far hF6 (by decide) hB6); clear hM6 hF6 hB6)
                go_roundg (4 - (2 + 1))
                case measure => omega
                case rel => exact ⟨2 + 1, by omega, by go_num, by rw [cB_succ, ← List.append_assoc]; exact hM7, bX7, hfar7, bw7, bN7⟩
              · have cN := bN.out.1.cell 3 _ rfl
                obtain ⟨nm, hnm⟩ : ∃ nm : ByteArray, ⟨#[98, 114]⟩ = nm := ⟨_, rfl⟩
                rw [hnm] at cN
                have hgnH := Lib.hid (show gnm (3 + 3, 0, 0) = nm by rw [← hnm]; rfl)
                have hfrH := Lib.hid (show numG (glG (cA k ++ cM k q ++ cB 3)) nm = 0 by
                  rw [← hgnH.out]
                  exact fresh_g (fun d hd => in_gU (by simp only [List.mem_append, mem_cA, mem_cM, mem_cB] at hd; omega)) (in_gU (by simp)) (by simp only [List.mem_append, mem_cA, mem_cM, mem_cB]; omega))
                have hlenH := Lib.hid (show (glG (cA k ++ cM k q ++ cB 3)).length ≤ 1000 by
                  rw [glG_len]; simp only [List.length_append, len_cA, len_cM, len_cB]; omega)
                have hnz : nm.size ≤ 1000 := by rw [← hnm]; decide
                clear hnm
                go_wp2_with (go_at_call 71; refine (glue_any b bm (glG (cA k ++ cM k q ++ cB 3), []) nm 1 _ hM.out hfrH.out hnz hlenH.out).mono ?_; rintro e w6 ⟨rfl, hM6, hF6, hB6⟩; rw [addG_cd (s := 1) _ _ (3 + 3, 0, 0) hgnH.out (by simp [gst])] at hM6; have hM7 := Lib.hid hM6; have hfar7 := Lib.hid (hfar.out.trans hF6); have bw7 := Lib.hid (hbw.out.trans hB6); have bX7 := Lib.hid (bX.out.far hF6 (by decide) hB6); have bN7 := Lib.hid (bN.out.far hF6 (by decide) hB6); clear hM6 hF6 hB6)
                go_roundg (4 - (3 + 1))
                case measure => omega
                case rel => exact ⟨3 + 1, by omega, by go_num, by rw [cB_succ, ← List.append_assoc]; exact hM7, bX7, hfar7, bw7, bN7⟩
            · obtain rfl : t = 4 := by omega
              go_wp2
              refine bodyPost_end (v := .tuple #[]) (by simp only [results, Tryd.results52]; go_simp) rfl ?_
              exact ⟨rfl, hM.out, hfar.out, hbw.out⟩
end Go.Proofs.YtkiamhpapkgboaaDoor
