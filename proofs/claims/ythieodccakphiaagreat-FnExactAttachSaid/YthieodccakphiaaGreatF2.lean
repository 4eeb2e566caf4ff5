/- Walks: slices.Repeat of one number. -/
import Derived.Test.YthieodccakphiaaGreatBase2
import Derived.Test.YthieodccakphiaaGreatOrdApp
import Derived.Test.YthieodccakphiaaGreatShelf
import Derived.Laws.CopyOwn
import Derived.IntWalk
namespace Go.Proofs.YthieodccakphiaaGreat
open Go.RowKit Go.Shelf
set_option linter.unusedSimpArgs false
set_option linter.unusedVariables false
attribute [local go_sem] BelowBy.cell BelowBy.cell_drew stillUpon givesUpon

section
variable {P : Program} {ops : Array Oper}
theorem wpD_copy {o : Oper} {rest : List (Oper × Tag)} {a : Act} {w : World} {Q : Act → World → Prop} (hgd : o.guard = none) (d s : Operand) (dT sT : TypeId)
    (ho : o.op = .call { callee := .builtin .copy, args := #[d, s], argTypes := #[dT, sT] }) (elem : TypeId) (hu : P.underlying dT = some (.slice elem)) (hsz : (P.info? elem).map (·.size) = some 1)
    (g off dLen dCap : Nat) (ad : Addr) (sLen sCap : Nat) (hd : a.eval d = .slice (some ⟨g, off, none⟩) dLen dCap) (hs : a.eval s = .slice (some ad) sLen sCap)
    (cur : Array Value) (t : TypeId) (hg : w.heap[g]? = some (.cells cur t (0, 0))) (cs : List Value) (hn : cs.length = Nat.min sLen dLen)
    (hsrc : ∀ j v, cs[j]? = some v → w.cell? (ad.add j) = some v) (hfit : off + cs.length ≤ cur.size) (h1 : ∀ v ∈ cs, v.oneCell' = true)
    (h : wpD P ops Q rest (a.put o.dst (goInt cs.length)) (w.setRow g (cur.toList.take off ++ cs ++ cur.toList.drop (off + cs.length)).toArray)) : wpD P ops Q ((o, .b) :: rest) a w := by
  refine wpD_b fun K hK => ?_
  have hw : Region.wanted o (yielded ops a.tmps) = true := by simp [Region.wanted, hgd]
  rw [if_pos hw]
  have hrun := run_copy_row (P := P) w dT sT o.type elem g off dLen dCap ad sLen sCap cur t cs hu hsz hg hn hsrc hfit h1
  unfold execOp
  simp only [ho, resolve, invoke, builtin, Sem.run_bind, Sem.run_pure, Result.andThen_ok, List.map_toArray, List.map_cons, List.map_nil, hd, hs, hrun]
  exact hK _ _ h
end
/-- m numbers x, the rest are 0 -/
def repCells (x : Int) (m n : Nat) : List Value := List.replicate m (.int .i64 x) ++ List.replicate (n - m) (.int .i64 0)
theorem repCells_len {x : Int} {m n : Nat} (h : m ≤ n) : (repCells x m n).length = n := by simp [repCells]; omega
theorem repCells_get {x : Int} {m n k : Nat} (h : k < m) : (repCells x m n)[k]? = some (.int .i64 x) := by
  unfold repCells
  rw [List.getElem?_append_left (by simpa using h)]
  simp [h]
theorem repCells_more {x : Int} {m n c : Nat} (h : m + c ≤ n) : (repCells x m n).take m ++ List.replicate c (.int .i64 x) ++ (repCells x m n).drop (m + c) = repCells x (m + c) n := by
  unfold repCells
  rw [List.take_left' (by simp), List.drop_append, List.drop_eq_nil_of_le (by simp), List.length_replicate, List.nil_append, List.drop_replicate, List.replicate_append_replicate]
  congr 2
  omega
theorem madeCells_rep (n : Nat) : madeCells #[Value.int .i64 0] n = (repCells (-1) 0 n).toArray := by
  apply Array.ext
  · rw [size_madeCells]; simp [repCells]
  · intro i h1 h2
    rw [size_madeCells] at h1
    simp [madeCells, repCells, Nat.mod_one]
theorem infoInt1 : (Tryz.prog.info? 3).map (fun i => (i.zero, i.size, i.bytes)) = some (some (.int .i64 0), 1, 8) := by kernel_rfl
theorem sizeInt1 : (Tryz.prog.info? 3).map (·.size) = some 1 := by kernel_rfl
theorem mul_one_any (n : Nat) (w : World) (h : n ≤ 100000) : Calls Tryz.prog 171 #[.int .u64 1, .int .u64 (n : Int)] w fun e w' => e = .returned (.tuple #[.int .u64 0, .int .u64 (n : Int)]) ∧ w = w' := by
  refine (Tryz.bits_Mul 1 n (by omega) (by omega) w).mono ?_
  rintro e w' ⟨rfl, rfl⟩
  refine ⟨?_, rfl⟩
  rw [Nat.one_mul, Nat.div_eq_of_lt (by omega), Nat.mod_eq_of_lt (by omega)]
  rfl
set_option maxRecDepth 100000 in
set_option maxHeartbeats 1000000 in
theorem Repeat_any (b n : Nat) (w : World) (h1 : 1 ≤ n) (h2 : n ≤ 100000) (hb : b < w.heap.size) (hc : w.cell? ⟨b, 0, none⟩ = some (.int .i64 (-1))) :
    Calls Tryz.prog 168 #[.slice (some ⟨b, 0, none⟩) 1 1, .int .i64 (n : Int)] w fun e w' => ∃ g, e = .returned (.slice (some ⟨g, 0, none⟩) n n) ∧ w.heap.size ≤ g ∧ w'.rowIs g 3 n (fun _ => .int .i64 (-1)) ∧ Below w.heap.size w w' := by
  have hmk : ∀ W : World, (Instr.makeSlice 230 (.int .i64 (n : Int)) (.int .i64 (n : Int))).run Tryz.prog W = .ok (.slice (some ⟨W.heap.size, 0, none⟩) n n) (W.alloc (.cells (repCells (-1) 0 n).toArray 3)) := fun W => by
    have := run_makeN (P := Tryz.prog) 230 3 _ 1 8 Tryz.underlying230 infoInt1 n (by omega) (by omega) W
    rw [this, Nat.mul_one, ← madeCells_rep]
    rfl
  have hsp : ∀ m c, m + c ≤ n → splice (repCells (-1) m n) m (List.replicate c (.int .i64 (-1))) = repCells (-1) (m + c) n := fun m c h => by
    rw [← repCells_more h]
    simp [splice]
  have hspH := Lib.hid hsp
  have hsrc : Hid (∀ (o : Obj) (j : Nat) (v : Value), (List.replicate 1 (Value.int .i64 (-1)))[j]? = some v → (w.alloc o).cell? ((⟨b, 0, none⟩ : Addr).add j) = some v) := Lib.hid fun o j v hj => by
    have hj0 : j = 0 := by
      have := (List.getElem?_eq_some_iff.1 hj).1
      simp at this
      exact this
    subst hj0
    simp at hj
    subst hj
    exact (World.cell?_alloc_lt _ _ _ hb).trans hc
  have hcH := Lib.hid hc
  clear hsp
  go_enter Tryz.func168, Tryz.ntmps168
  go_wp2_with (first | (go_at_call 171; refine (mul_one_any n _ h2).mono ?_; rintro e w' ⟨rfl, rfl⟩) | ((refine wpList_copy_splice (o := ⟨some 33, _, _, _, _, _⟩) rfl (.tmp 31) (.tmp 32) 230 230 rfl 3 Tryz.underlying230 sizeInt1 (some ⟨w.heap.size, 0, none⟩) (some ⟨b, 0, none⟩) n n 1 1 (by rfl) (by rfl) w.heap.size 0 (repCells (-1) 0 n) 3 (heap_alloc_new _ _) (List.replicate 1 (.int .i64 (-1))) (by simp only [List.length_replicate]; exact (Nat.min_eq_left h1).symm) (fun _ => ⟨rfl, ⟨b, 0, none⟩, rfl, hsrc.out _⟩) (by rw [repCells_len (by omega)]; simp; omega) (fun v hv => by simp at hv; subst hv; rfl) w.heap.size w (bl_al (bl_refl _) _) (Nat.le_refl _) ?_); intro w1 hg1 hb1; have hg2 := hg1.out; rw [hspH.out 0 1 (by omega)] at hg2; have hg1 := Lib.hid hg2; clear hg2; have hb1 := Lib.hid hb1))
  go_loopg [8] (n - 1) (fun g x wr => ∃ m : Nat, m + g = n ∧ x = .int .i64 (m : Int) ∧ 1 ≤ m ∧ Hid (wr.heap[w.heap.size]? = some (.cells (repCells (-1) m n).toArray 3 (0, 0))) ∧ Hid (Below w.heap.size w wr))
  case atStart => exact ⟨1, by omega, rfl, Nat.le_refl _, hg1, hb1⟩
  case round =>
    clear hg1 hb1
    obtain ⟨m, hm, rfl, hm1, hg, hb⟩ := hrel
    by_cases hmn : m < n
    · obtain ⟨c, hc⟩ : ∃ c, min m (n - m) = c := ⟨_, rfl⟩
      have hcH := Lib.hid hc
      have hc1 : 1 ≤ c := by omega
      have hc2 : m + c ≤ n := by omega
      have hsrc : Hid (∀ (j : Nat) (v : Value), (List.replicate c (Value.int .i64 (-1)))[j]? = some v → wr.drew.cell? ((⟨w.heap.size, 0, none⟩ : Addr).add j) = some v) := Lib.hid fun j v hj => by
        have hj0 := (List.getElem?_eq_some_iff.1 hj).1
        rw [List.length_replicate] at hj0
        rw [List.getElem?_replicate, if_pos hj0] at hj
        obtain rfl := Option.some.inj hj
        rw [Addr.add_lit, Nat.zero_add]
        have := repCells_get (x := -1) (n := n) (k := j) (m := m) (by omega)
        show wr.cell? ⟨w.heap.size, j, none⟩ = _
        simp only [World.cell?, hg.out]
        simpa using this
      have hwr : IntKind.i64.wrap ((m : Int) + (c : Int)) = (m : Int) + (c : Int) := IntWalk.i64_in _ ⟨by omega, by omega⟩
      have k1 : ¬ (m = n) := by omega
      have k2 : ¬ (n = m) := by omega
      have k3 : m ≤ n := by omega
      clear hc
      go_wp2
      refine wp_region_ord [(0, .p), (1, .q), (2, .q), (3, .q), (4, .q), (5, .q), (6, .q), (7, .b), (8, .q), (9, .q)] (by kernel_rfl) (by kernel_rfl) ?_
      simp only [pick, List.filterMap_cons, List.filterMap_nil, List.getElem?_toArray, List.getElem?_cons_zero, List.getElem?_cons_succ, Option.map_some]
      repeat (first | ((with_reducible refine wpD_p (fun K hK => ?_)); go_simp; refine hK _ ?_; clear hK K) | ((with_reducible refine wpD_q (fun K hK => ?_)); go_simp; (first | refine hK _ ?_ | (go_bits; refine hK _ ?_) | (go_bits; go_simp; refine hK _ ?_)); clear hK K))
      refine wpD_copy rfl _ _ 230 230 rfl 3 Tryz.underlying230 sizeInt1 w.heap.size m (n - m) (n - m) ⟨w.heap.size, 0, none⟩ m n (by go_simp) (by go_simp) (repCells (-1) m n).toArray 3 hg.out (List.replicate c (.int .i64 (-1))) (by rw [List.length_replicate]; exact hcH.out.symm) hsrc.out (by rw [List.length_replicate, List.size_toArray, repCells_len (by omega)]; exact hc2) (fun v hv => by simp at hv; rw [hv.2]; rfl) ?_
      rw [show (repCells (-1) m n).toArray.toList.take m ++ List.replicate c (Value.int .i64 (-1)) ++ (repCells (-1) m n).toArray.toList.drop (m + (List.replicate c (Value.int .i64 (-1))).length) = repCells (-1) (m + c) n by rw [List.length_replicate]; exact repCells_more hc2, List.length_replicate]
      repeat (first | ((with_reducible refine wpD_p (fun K hK => ?_)); go_simp; refine hK _ ?_; clear hK K) | ((with_reducible refine wpD_q (fun K hK => ?_)); go_simp; (first | refine hK _ ?_ | (go_bits; refine hK _ ?_) | (go_bits; go_simp; refine hK _ ?_)); clear hK K))
      with_reducible refine wpD_nil ?_
      go_wp2
      go_roundg (n - (m + c))
      case measure => omega
      case rel => exact ⟨m + c, Nat.add_sub_cancel' hc2, by go_num, Nat.le_trans hm1 (Nat.le_add_right _ _), Lib.hid (setRow_heap _ _ _ _ _ _ hg.out), Lib.hid (below_setRow hb.out.drew (Nat.le_refl _) _)⟩
    · obtain rfl : m = n := by omega
      go_wp2
      go_ret
      exact ⟨w.heap.size, rfl, Nat.le_refl _, ⟨_, hg.out, by simp [repCells], fun i hi => by have := repCells_get (x := -1) (n := m) hi; simpa using this⟩, hb.out⟩
end Go.Proofs.YthieodccakphiaaGreat
