/- Walks: the first shortest way with room, found by a search through a channel. -/
import Derived.Test.YthieodccakphiaaGreatCh
import Derived.Test.YthieodccakphiaaGreatF2
import Derived.Test.YthieodccakphiaaGreatF2b
import Derived.Test.YthieodccakphiaaGreatW20a
import Derived.Test.YthieodccakphiaaGreatP7
import Derived.Deep.CutRange
namespace Go.Proofs.YthieodccakphiaaGreat
open Go.RowKit Go.Shelf Go.Conc
set_option linter.unusedSimpArgs false
set_option linter.unusedVariables false
attribute [local go_sem] BelowBy.cell BelowBy.cell_drew stillUpon givesUpon BelowBy.cell_drew2 BelowBy.cell_drew3

def intsI (l : List Nat) : List Int := l.map fun x => ((x : Nat) : Int)
def WayRes (w : World) (r : Option (List Nat)) (e : Ending) (w' : World) : Prop := Below w.heap.size w w' ∧ match r with
  | none => e = .returned (.slice none 0 0)
  | some L => ∃ g c, e = .returned (.slice (some ⟨g, 0, none⟩) L.length c) ∧ w'.ownsRow w.heap.size 3 1 (.slice (some ⟨g, 0, none⟩) L.length c) L.length ((intsI L).map (Value.int .i64))
theorem bytesInt : ∃ i, Tryz.prog.info? 3 = some i ∧ i.bytes = 8 := by
  have h : (Tryz.prog.info? 3).map (·.bytes) = some 8 := by kernel_rfl
  obtain ⟨i, hi, hb⟩ := Option.map_eq_some_iff.1 h
  exact ⟨i, hi, hb⟩
theorem mkChan (n : Nat) (hn : n ≤ 100000) (w : World) : (Instr.makeChan 256 (.int .i64 (n : Int))).run Tryz.prog w = .ok (.chan (some w.heap.size)) (w.alloc (.chan n #[] false 0 0 false)) := by
  obtain ⟨i, hi, hb⟩ := bytesInt
  exact run_makeChan (P := Tryz.prog) (w := w) Tryz.underlying256 hi .i64 n (by omega) (by rw [hb]; omega)
theorem zeroInt1 (w : World) : (zeroValue 3).run Tryz.prog w = .ok (.int .i64 0) w := by kernel_rfl
theorem free_at (base p n u v : Nat) (R F : Nat → Nat → Int) (vR vF : Value) (uR uF : List Value) (w : World) (h : Net w base p n R F vR vF uR uF) (hu : u < n) (hv : v < n) {b : Bool} (hb : freeE R F u v = b) :
    Calls Tryz.prog 169 #[.pointer (some ⟨p, 0, none⟩), .int .i64 (u : Int), .int .i64 (v : Int)] w fun e w' => e = .returned (.bool b) ∧ Below w.heap.size w w' := by
  rw [← hb]; exact free_any base p n u v R F vR vF uR uF w h hu hv
/-- the search: what was found waits in the channel, from place d on -/
structure WaySt (w : World) (c g n : Nat) (E : Nat → Nat → Bool) (x : Nat) (L q : List Nat) (i t d : Nat) (f : Nat → Int) (wr : World) : Prop where
  bfs : Bfs n E x L q i t
  par : Par n L q f
  ch : ∃ s r, wr.heap[c]? = some (.chan n ((intsI (L.drop d)).map (Value.int .i64)).toArray false s r false)
  row : wr.rowIs g 3 n (fun v => .int .i64 (f v))
  below : Below w.heap.size w wr
  gl : w.heap.size ≤ g
  cl : w.heap.size ≤ c
  ne : c ≠ g
  le : d ≤ L.length
theorem WaySt.kept {w : World} {c g n : Nat} {E : Nat → Nat → Bool} {x : Nat} {L q : List Nat} {i t d : Nat} {f : Nat → Int} {wr wr' : World} (h : WaySt w c g n E x L q i t d f wr) (hb : Below wr.heap.size wr wr') : WaySt w c g n E x L q i t d f wr' := by
  obtain ⟨s, r, hc⟩ := h.ch
  exact ⟨h.bfs, h.par, ⟨s, r, (hb.block c (lt_of_heap hc)).trans hc⟩, h.row.of_block (hb.block g h.row.lt), h.below.trans (hb.mono h.below.size), h.gl, h.cl, h.ne, h.le⟩
theorem chan_size (L : List Nat) (d : Nat) : (((intsI (L.drop d)).map (Value.int .i64)).toArray).size = L.length - d := by simp [intsI]
theorem chan_push (L : List Nat) (d t : Nat) (hd : d ≤ L.length) : (((intsI (L.drop d)).map (Value.int .i64)).toArray).push (.int .i64 (t : Int)) = ((intsI ((L ++ [t]).drop d)).map (Value.int .i64)).toArray := by
  rw [List.drop_append_of_le_length hd]
  simp [intsI]
theorem chan_pop (L : List Nat) (d : Nat) : (((intsI (L.drop d)).map (Value.int .i64)).toArray).extract 1 (((intsI (L.drop d)).map (Value.int .i64)).toArray).size = ((intsI (L.drop (d + 1))).map (Value.int .i64)).toArray := by
  apply Array.ext'
  simp [intsI, List.drop_drop, ← List.map_drop]
  rw [List.take_of_length_le (by simp; omega)]
theorem chan_head {L : List Nat} {d u : Nat} (h : L[d]? = some u) : (((intsI (L.drop d)).map (Value.int .i64)).toArray)[0]? = some (.int .i64 (u : Int)) := by
  simp [intsI, h]
set_option maxRecDepth 100000 in
set_option maxHeartbeats 4000000 in
theorem way_any (base p n x y : Nat) (R F : Nat → Nat → Int) (vR vF : Value) (uR uF : List Value) (w : World) (h : Net w base p n R F vR vF uR uF) (hx : x < n) (hy : y < n) (hn : n ≤ 100000) :
    Calls Tryz.prog 167 #[.pointer (some ⟨p, 0, none⟩), .int .i64 (x : Int), .int .i64 (y : Int)] w (WayRes w (wayTo n (freeE R F) x y)) := by
  obtain ⟨i1, hi', hz0', hz1', hz2'⟩ := info_parts infoInt1
  have hN := Lib.hid h
  have hmc := mkChan n hn
  obtain ⟨A0, c0, hv⟩ := Own2.form h.R h.R.len
  have hr := h.room
  rw [hv] at hr
  have hl := h.lt
  clear h hv
  obtain ⟨E, hE⟩ : ∃ E, freeE R F = E := ⟨_, rfl⟩
  rw [hE]
  have hEH := Lib.hid hE
  clear hE
  go_enter Tryz.func167, Tryz.ntmps167
  go_upto_region 4 with (go_at_call 168; refine (Repeat_any w.heap.size n _ (by omega) hn (by simp) (by go_simp)).mono ?_; rintro e w1 ⟨g, rfl, hg1, hrow1, hb1⟩)
  have hgl := hrow1.lt
  have hs1 : w.heap.size + 1 ≤ w1.heap.size := by have := hb1.size; simpa using this
  have hgg : w.heap.size + 1 ≤ g := by simpa using hg1
  have hbw : Below w.heap.size w (w1.alloc (.chan n #[] false 0 0 false)) := by exact bel_
  have hrow1H := Lib.hid hrow1
  clear hrow1 hb1
  refine wp_region_send rfl rfl rfl rfl rfl rfl (c := w1.heap.size) (v := .int .i64 (x : Int)) (by go_simp) (by go_simp) (heap_alloc_new _ _) (by simp; omega) ?_
  intro w2 hch2 hgr2 K hK
  go_simp
  refine hK _ ?_
  clear hK K
  have hrow2 : w2.rowIs g 3 n (fun _ => .int .i64 (-1)) := (hrow1H.out.alloc _).of_block (hgr2.block g (by simp; omega) (by simp; omega))
  have hcx := hrow2.cell (i := x) hx
  have hfx := hrow2.frozen x
  have hgl2 := hrow2.lt
  have hs2 : w1.heap.size + 1 ≤ w2.heap.size := by have := hgr2.size; simpa using this
  have hst2 : Hid (WaySt w w1.heap.size g n E x [x] [0] 0 0 0 (fun j => if j = x then (x : Int) else -1) (w2.setCell ⟨g, x, none⟩ (.int .i64 (x : Int)))) := Lib.hid ⟨Bfs.start hx, Par.start,
    ⟨1, 0, (Below.heap_setCell _ _ _ _ (by simp; omega)).trans (by have := hch2; simpa [intsI] using this)⟩, (hrow2.set x _).congr (fun j _ => by split <;> rfl), (hbw.grown hgr2 (by simp; omega) (fun k e => by injection e with e; omega)).setCell (p := ⟨g, x, none⟩) (by simp; omega) _, by omega, by omega, by omega, by simp⟩
  clear hrow2 hch2 hgr2
  go_wp2
  go_loopg [] n (fun gk wr => ∃ (L q : List Nat) (i : Nat) (f : Nat → Int), i + gk = n ∧ Hid (WaySt w w1.heap.size g n E x L q i 0 i f wr))
  case atStart => exact ⟨_, _, 0, _, by omega, hst2⟩
  case round =>
    clear hst2 hcx hfx
    obtain ⟨L, q, i, f, hi, hst⟩ := hrel
    obtain ⟨s, r, hch⟩ := hst.out.ch
    have hlen := fun ty => run_len_chan (P := Tryz.prog) 256 ty Tryz.underlying256 hch
    simp only [chan_size] at hlen
    have hLn := hst.out.bfs.size
    by_cases hiL : i < L.length
    · obtain ⟨m, hm⟩ : ∃ m, L.length - i = m := ⟨_, rfl⟩
      rw [hm] at hlen
      have hm0 : 0 < m := by omega
      obtain ⟨u, hu⟩ : ∃ u, L[i]? = some u := ⟨_, List.getElem?_eq_getElem hiL⟩
      have huH := Lib.hid hu
      have hchH := Lib.hid hch
      clear hu hch hm
      go_upto_region 7 with fail
      refine wp_region_recv rfl rfl rfl rfl rfl rfl (c := w1.heap.size) (v := .int .i64 (u : Int)) Tryz.underlying256 zeroInt1 (by go_simp) hchH.out (chan_head huH.out) ?_
      intro w3 hch3 hgr3 K hK
      rw [chan_pop] at hch3
      go_simp
      refine hK _ ?_
      clear hK K
      have hun : u < n := hst.out.bfs.lt i u huH.out
      have hst3 : Hid (WaySt w w1.heap.size g n E x L q i 0 (i + 1) f w3) := Lib.hid ⟨hst.out.bfs, hst.out.par, ⟨_, _, hch3⟩, hst.out.row.of_block (hgr3.block g hst.out.row.lt (by have := hst.out.ne; simp; omega)),
        hst.out.below.grown hgr3 hst.out.below.size (fun k e => by injection e with e; have := hst.out.cl; omega), hst.out.gl, hst.out.cl, hst.out.ne, hiL⟩
      clear hch3 hgr3 hlen
      go_wp2
      go_loopg [36] n (fun gk ctr wr => ∃ (t : Nat) (L q : List Nat) (f : Nat → Int), t + gk = n ∧ ctr = .int .i64 (t : Int) ∧ Hid (WaySt w w1.heap.size g n E x L q i t (i + 1) f wr) ∧ Hid (L[i]? = some u))
      case atStart => exact ⟨0, L, q, f, by omega, rfl, hst3, huH⟩
      case round =>
        clear hst3 hst huH hchH hm0 hLn hiL
        obtain ⟨t, L, q, f, ht, rfl, hst, hu⟩ := hrel
        have hgl3 := hst.out.row.lt
        by_cases htn : t < n
        · have hct := hst.out.row.cell (i := t) htn
          have hft := hst.out.row.frozen t
          by_cases htL : t ∈ L
          · obtain ⟨k, hk⟩ := List.mem_iff_getElem?.1 htL
            obtain ⟨p', hp'⟩ : ∃ p', q[k]? = some p' := ⟨_, List.getElem?_eq_getElem (by rw [hst.out.bfs.len]; exact (List.getElem?_eq_some_iff.1 hk).1)⟩
            obtain ⟨u', hu'⟩ : ∃ u', L[p']? = some u' := ⟨_, List.getElem?_eq_getElem (by have := (hst.out.bfs.within k p' hp').1; have := (List.getElem?_eq_some_iff.1 hk).1; omega)⟩
            rw [hst.out.par.at_ k t p' u' hk hp' hu'] at hct
            have hnn : ¬ ((u' : Int) < 0) := by omega
            have hnext := Lib.hid (hst.out.bfs.skip hu.out (fun _ => htL))
            clear hk hp' hu'
            go_wp2
            go_roundg (n - (t + 1))
            case measure => omega
            case rel => exact ⟨t + 1, L, q, f, by omega, by go_num, Lib.hid ⟨hnext.out, hst.out.par, hst.out.ch, hst.out.row, hst.out.below, hst.out.gl, hst.out.cl, hst.out.ne, hst.out.le⟩, hu⟩
          · rw [hst.out.par.no t htn htL] at hct
            have hfp : ¬ (f t = 0) := by rw [hst.out.par.no t htn htL]; decide
            cases hEt : E u t
            · have hEH2 := Lib.hid hEt
              have hnext := Lib.hid (hst.out.bfs.skip hu.out (fun e => by rw [hEt] at e; cases e))
              clear hEt hfp
              go_wp2_with (go_at_call 169; refine (free_at base p n u t R F vR vF uR uF _ (hN.out.below hst.out.below) hun htn (b := false) (by rw [hEH.out]; exact hEH2.out)).mono ?_; rintro e w4 ⟨rfl, hb4⟩)
              go_roundg (n - (t + 1))
              case measure => omega
              case rel => exact ⟨t + 1, L, q, f, by omega, by go_num, Lib.hid (WaySt.kept ⟨hnext.out, hst.out.par, hst.out.ch, hst.out.row, hst.out.below, hst.out.gl, hst.out.cl, hst.out.ne, hst.out.le⟩ hb4), hu⟩
            · have hEH2 := Lib.hid hEt
              have hroom := hst.out.bfs.room htn htL
              have hnb := Lib.hid (hst.out.bfs.found hu.out htn hEt htL)
              have hnp := Lib.hid (hst.out.par.found hst.out.bfs hu.out htL)
              have hu2 := Lib.hid (show (L ++ [t])[i]? = some u by rw [List.getElem?_append_left (List.getElem?_eq_some_iff.1 hu.out).1]; exact hu.out)
              clear hEt hfp
              go_upto_region 13 with (go_at_call 169; refine (free_at base p n u t R F vR vF uR uF _ (hN.out.below hst.out.below) hun htn (b := true) (by rw [hEH.out]; exact hEH2.out)).mono ?_; rintro e w4 ⟨rfl, hb4⟩; have hst4 := Lib.hid (hst.out.kept hb4); have hct := hst4.out.row.cell (i := t) htn; have hft := hst4.out.row.frozen t; have hgl4 := hst4.out.row.lt)
              obtain ⟨s4, r4, hch4⟩ := hst4.out.ch
              have hch5 : (w4.setCell ⟨g, t, none⟩ (.int .i64 (u : Int))).heap[w1.heap.size]? = _ := (Below.heap_setCell _ _ _ _ (by have := hst.out.ne; simpa using this)).trans hch4
              have hrow5 := Lib.hid ((hst4.out.row.set t (.int .i64 (u : Int))).congr (g := fun j => .int .i64 (if j = t then (u : Int) else f j)) (fun j _ => by split <;> rfl))
              have hbw5 := Lib.hid (hst4.out.below.setCell (p := ⟨g, t, none⟩) hst.out.gl (.int .i64 (u : Int)))
              have hch5H := Lib.hid hch5
              clear hch4 hch5 hct hft
              refine wp_region_send rfl rfl rfl rfl rfl rfl (c := w1.heap.size) (v := .int .i64 (t : Int)) (by go_simp) (by go_simp) hch5H.out (by rw [chan_size]; omega) ?_
              intro w6 hch6 hgr6 K hK
              rw [chan_push _ _ _ hst.out.le] at hch6
              go_simp
              refine hK _ ?_
              clear hK K
              have hst6 : Hid (WaySt w w1.heap.size g n E x (L ++ [t]) (q ++ [i]) i (t + 1) (i + 1) (fun j => if j = t then (u : Int) else f j) w6) := Lib.hid ⟨hnb.out, hnp.out, ⟨_, _, hch6⟩, hrow5.out.of_block (hgr6.block g hrow5.out.lt (by have := hst.out.ne; simp; omega)),
                hbw5.out.grown hgr6 hbw5.out.size (fun k e => by injection e with e; have := hst.out.cl; omega), hst.out.gl, hst.out.cl, hst.out.ne, by have := hst.out.le; simp; omega⟩
              clear hch6 hgr6
              go_wp2
              go_roundg (n - (t + 1))
              case measure => omega
              case rel => exact ⟨t + 1, _, _, _, by omega, by go_num, hst6, hu2⟩
        · obtain rfl : t = n := by omega
          go_wp2
          have hLn := hst.out.bfs.size
          have hil := (List.getElem?_eq_some_iff.1 hu.out).1
          go_roundg (t - (i + 1))
          case measure => omega
          case rel => exact ⟨L, q, i + 1, f, by omega, Lib.hid ⟨hst.out.bfs.done, hst.out.par, hst.out.ch, hst.out.row, hst.out.below, hst.out.gl, hst.out.cl, hst.out.ne, hst.out.le⟩⟩
    · obtain rfl : i = L.length := by have := hst.out.le; omega
      rw [Nat.sub_self] at hlen
      have hcy := hst.out.row.cell (i := y) hy
      have hgl3 := hst.out.row.lt
      by_cases hyL : y ∈ L
      · obtain ⟨k, hk⟩ := List.mem_iff_getElem?.1 hyL
        obtain ⟨p', hp'⟩ : ∃ p', q[k]? = some p' := ⟨_, List.getElem?_eq_getElem (by rw [hst.out.bfs.len]; exact (List.getElem?_eq_some_iff.1 hk).1)⟩
        obtain ⟨u', hu'⟩ : ∃ u', L[p']? = some u' := ⟨_, List.getElem?_eq_getElem (by have := (hst.out.bfs.within k p' hp').1; have := (List.getElem?_eq_some_iff.1 hk).1; omega)⟩
        rw [hst.out.par.at_ k y p' u' hk hp' hu'] at hcy
        have hnn : ¬ ((u' : Int) < 0) := by omega
        have hcyH := Lib.hid hcy
        have hw := hst.out.bfs.way (y := y) hx
        obtain ⟨D, hD⟩ : ∃ D, distTo n E y x = some D := by
          cases hd : distTo n E y x with
          | none => exact ((hw.1 (by unfold wayTo; rw [hd]; rfl)) hyL).elim
          | some D => exact ⟨D, rfl⟩
        have hres := Lib.hid (show wayTo n E x y = some (wayL n E y D x) by unfold wayTo; rw [hD]; rfl)
        have hDH := Lib.hid hD
        have hDn := wayL_short hx hD
        have hWl := wayL_len n E y D x
        have hlast := wayL_last hx hD
        have hback := Lib.hid (fun (m u v : Nat) (hm : m < D) (hu : (wayL n E y D x)[m]? = some u) (hv : (wayL n E y D x)[m + 1]? = some v) => hst.out.par.back hst.out.bfs hx hD hm hu hv)
        have hstart := Lib.hid (fun (m : Nat) (h : (wayL n E y D x)[m]? = some x) => wayL_start hx hD h)
        have hwn := Lib.hid (fun (m u : Nat) (h : (wayL n E y D x)[m]? = some u) => (wayL_spec D x hx hD m u h).1)
        have hhead := wayL_head n E y D x
        obtain ⟨W, hW⟩ : ∃ W, wayL n E y D x = W := ⟨_, rfl⟩
        rw [hW] at hWl hlast hback hstart hres hwn hhead
        have hWlH := Lib.hid hWl
        have hlastH := Lib.hid hlast
        have hheadH := Lib.hid hhead
        clear hk hp' hu' hw hD hch hW hWl hlast hhead hcy
        obtain ⟨wb, rfl⟩ : ∃ wb : World, wb = wr := ⟨_, rfl⟩
        have hcy := hcyH.out
        go_wp2
        go_loopg [13, 12] D (fun gk kv v wr => ∃ (j z : Nat), j + gk = D ∧ kv = .int .i64 (z : Int) ∧ Hid (W[D - j]? = some z) ∧ Hid (wr.ownsRow wb.heap.size 3 1 v (j + 1) ((intsI (W.drop (D - j)).reverse).map (Value.int .i64))) ∧ Hid (Below wb.heap.size wb wr))
        case atStart =>
          refine ⟨0, y, by omega, rfl, hlastH, Lib.hid ?_, Lib.hid (bl_al (bl_refl _) _)⟩
          rw [Nat.sub_zero, drop_last hWlH.out hlastH.out]
          exact World.ownsRow_lit wb #[.int .i64 (y : Int)] 1 (Nat.le_refl _) (by decide) rfl
        case round =>
          obtain ⟨j, z, hj, rfl, hz, hrow, hbq⟩ := hrel
          have hzn := hwn.out _ _ hz.out
          have hszq := hbq.out.size
          obtain ⟨g5, c5, rfl⟩ := ownsRow_succ hrow.out
          by_cases hjD : j = D
          · subst hjD
            have hzx : z = x := by
              have h1 := hz.out
              rw [Nat.sub_self, hheadH.out] at h1
              exact (Option.some.inj h1).symm
            subst hzx
            have hrow1 := hrow.out
            rw [Nat.sub_self, List.drop_zero] at hrow1
            have hrow1H := Lib.hid hrow1
            have hg5 := (hrow.out.lt g5 rfl).1
            clear hrow1
            go_wp2_with (go_at_call 170; refine (Reverse_any wb.heap.size g5 (j + 1) c5 (intsI W.reverse) _ hrow1H.out (by omega) (by omega)).mono ?_; rintro e w9 ⟨rfl, hrow9, hgr9⟩; have hrow9H := Lib.hid hrow9; have hgr9H := Lib.hid hgr9; clear hrow9 hgr9)
            go_ret
            rw [hres.out]
            have hrev : (intsI W.reverse).reverse = intsI W := by simp [intsI, List.map_reverse]
            have h9 := hrow9H.out
            rw [hrev, ← hWlH.out] at h9
            refine ⟨hst.out.below.trans ((hbq.out.grown hgr9H.out hszq (fun k e => by injection e with e; omega)).mono hst.out.below.size), g5, c5, ?_, ownsRow_base h9 hst.out.below.size⟩
            rw [hWlH.out]
            rfl
          · have hjl : j < D := by omega
            obtain ⟨m, hm⟩ : ∃ m, D - j = m + 1 := ⟨D - j - 1, by omega⟩
            have hmj : D - (j + 1) = m := by omega
            rw [hm] at hz hrow
            obtain ⟨z', hz'⟩ : ∃ z', W[m]? = some z' := ⟨_, List.getElem?_eq_getElem (by have := hWlH.out; omega)⟩
            have hf := hback.out m z' z (by omega) hz' hz.out
            have hne : ¬ (z = x) := fun e => by
              have := hstart.out (m + 1) (e ▸ hz.out)
              omega
            have hneI : ((z : Int) != (x : Int)) = true := by simp; omega
            have hcz := (hbq.out.cell (p := ⟨g, z, none⟩) hgl3).trans (hst.out.row.cell (i := z) hzn)
            rw [hf] at hcz
            have hgq : g < wr.heap.size := by omega
            have hzH := Lib.hid hz'
            have hmH := Lib.hid hmj
            have hdm := Lib.hid (drop_more hz')
            clear hz' hf hm hmj
            go_wp2_with (at_builtin; refine wpList_append_own _ rfl _ _ 230 rfl wb.heap.size 3 i1 (.int .i64 0) 1 8 Tryz.underlying230 hi' hz0' hz1' hz2' rfl (by decide) _ (j + 1) ((intsI (W.drop (m + 1)).reverse).map (Value.int .i64)) rfl (hrow.out.alloc _) ⟨wr.heap.size, 0, none⟩ 1 1 [.int .i64 (z' : Int)] rfl rfl (cell_one_new _ _ _) (fun x hx => by simp at hx; subst hx; rfl) (by unfold maxLen; omega) (by omega) (by simp; omega) ?_; intro u3 w3 hown3 hgrow3 _; have hown3H := Lib.hid hown3; have hgrow3H := Lib.hid hgrow3; clear hown3 hgrow3)
            go_roundg (D - (j + 1))
            case measure => omega
            case rel =>
              refine ⟨j + 1, z', by omega, rfl, by rw [hmH.out]; exact hzH, Lib.hid ?_, Lib.hid (hbq.out.trans (below_app hszq (fun g e => (hrow.out.lt g e).1) hgrow3H.out))⟩
              rw [hmH.out, hdm.out]
              have h3 := hown3H.out
              simpa [intsI] using h3
      · have hw := Lib.hid ((hst.out.bfs.way (y := y) hx).2 hyL)
        rw [hst.out.par.no y hy hyL] at hcy
        clear hch
        go_wp2
        go_ret
        rw [hw.out]
        exact ⟨hst.out.below, rfl⟩
end Go.Proofs.YthieodccakphiaaGreat
