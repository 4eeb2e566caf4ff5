/- Walks: the program's groups by bonds. -/
import Derived.Test.YtfabgnnpgepcoaaW38
import Derived.Test.YtfabgnnpgepcoaaN1
import Derived.Test.YtfabgnnpgepcoaaP5
namespace Go.Proofs.Ytfabgnnpgepcoaa
open Go.RowKit Go.Shelf
set_option linter.unusedSimpArgs false
set_option linter.unusedVariables false
attribute [local go_sem] BelowBy.cell BelowBy.cell_drew stillUpon givesUpon BelowBy.cell_drew2 BelowBy.cell_drew3

theorem Forest.blocks {w w' : World} {Bg n : Nat} {f : Nat → Nat} (h : Forest w Bg n f) (hk : ∀ i, i < n → w'.heap[Bg + i]? = w.heap[Bg + i]?) : Forest w' Bg n f := fun i hi => by
  obtain ⟨h1, h2, h3, h4⟩ := h i hi
  have hb := hk i hi
  have hlt : Bg + i < w'.heap.size := by
    have := Array.getElem?_eq_getElem h1
    rw [← hb] at this
    exact (Array.getElem?_eq_some_iff.1 this).1
  refine ⟨hlt, (World.cell?_of_block (w := w) (a := ⟨Bg + i, 1, none⟩) hb).trans h2, (World.frozen?_of_block (w := w) (a := ⟨Bg + i, 0, none⟩) hb).trans h3, ?_⟩
  rcases h4 with ⟨h5, h6⟩ | ⟨h5, j, h6, h7, h8⟩
  · exact .inl ⟨h5, (World.cell?_of_block (w := w) (a := ⟨Bg + i, 0, none⟩) hb).trans h6⟩
  · exact .inr ⟨h5, j, h6, h7, (World.cell?_of_block (w := w) (a := ⟨Bg + i, 0, none⟩) hb).trans h8⟩
theorem Forest.one {w : World} {Bg k : Nat} (h : Forest w Bg k fun j => j) (hs : w.heap.size = Bg + k) (T : TypeId) : Forest (w.alloc (.cells #[.pointer none, .int .i64 (k : Int)] T)) Bg (k + 1) fun j => j := fun i hi => by
  rcases Nat.lt_succ_iff_lt_or_eq.1 hi with hi | rfl
  · exact (h.below (bl_al (bl_refl _) _)) i hi
  · refine ⟨by simp; omega, ?_, ?_, .inl ⟨rfl, ?_⟩⟩
    all_goals (rw [← hs]; go_simp)
theorem Forest.setBelow {w : World} {Bg n : Nat} {f : Nat → Nat} (h : Forest w Bg n f) {p : Addr} (hp : p.block < Bg) (u : Value) : Forest (w.setCell p u) Bg n f :=
  h.blocks fun i _ => Below.heap_setCell _ _ _ _ (by omega)
theorem Forest.root {w : World} {Bg n r : Nat} {f : Nat → Nat} (h : Forest w Bg n f) (hr : f r = r) (hn : r < n) : w.cell? ⟨Bg + r, 0, none⟩ = some (.pointer none) := by
  obtain ⟨_, _, _, ⟨_, h⟩ | ⟨h, _⟩⟩ := h r hn
  · exact h
  · exact (h hr).elim
theorem relab_lt {f : Nat → Nat} {a b : Nat} (h : f a < f b) : relab f a b = fun k => if f k = f b then f a else f k := by
  funext k
  unfold relab
  rw [Nat.max_eq_right (Nat.le_of_lt h), Nat.min_eq_left (Nat.le_of_lt h)]
theorem relab_gt {f : Nat → Nat} {a b : Nat} (h : f b < f a) : relab f a b = fun k => if f k = f a then f b else f k := by
  funext k
  unfold relab
  rw [Nat.max_eq_left (Nat.le_of_lt h), Nat.min_eq_right (Nat.le_of_lt h)]
theorem relab_eq {f : Nat → Nat} {a b : Nat} (h : f a = f b) : relab f a b = f := by
  funext k
  unfold relab
  rw [h, Nat.max_self, Nat.min_self]
  split
  · rename_i e; exact e.symm
  · rfl
def intsN (l : List Nat) : List Value := l.map fun x => Value.int .i64 ((x : Nat) : Int)
theorem intsN_len (l : List Nat) : (intsN l).length = l.length := by simp [intsN]
def OwnGr (w : World) (gss : List (List Nat)) (e : Ending) (w' : World) : Prop := ∃ v us, e = .returned v ∧ Own2 w' w.heap.size 29 2 1 v us (gss.map intsN) ∧ Below w.heap.size w w'
theorem infoGp : (Try.prog.info? 190).map (fun i => (i.zero, i.size, i.bytes)) = some (some (.pointer none), 1, 8) := by kernel_rfl
theorem infoIs : (Try.prog.info? 29).map (fun i => (i.zero, i.size, i.bytes)) = some (some (.slice none 0 0), 1, 24) := by kernel_rfl
set_option maxRecDepth 100000 in
set_option maxHeartbeats 2000000 in
theorem groupsBy_any (n : Nat) (B : Option Addr) (m c : Nat) (bs : List Bd) (w : World) (hB : RdSl 3 RBd w B m bs) (hn : n ≤ 100000) (hm : m ≤ 1000000) (hbs : ∀ (k : Nat) (e : Bd), bs[k]? = some e → e.a < n ∧ e.b < n) :
    Calls Try.prog 102 #[.int .i64 (n : Int), .slice B m c] w (OwnGr w (groupsL (labOf bs m) n)) := by
  obtain ⟨i0, hi, hz0, hz1, hz2⟩ := info_parts infoIs
  obtain ⟨i1, hi', hz0', hz1', hz2'⟩ := info_parts infoI
  have hmk := fun W => run_makeN (P := Try.prog) 189 190 _ 1 8 Try.underlying189 infoGp n (by omega) (by omega) W
  have hmm := @run_makeMap Try.prog
  have hBH := Lib.hid hB
  have hbsH := Lib.hid hbs
  have hml := Lib.hid hB.len
  clear hB hbs
  go_enter Try.func102, Try.ntmps102
  go_wp2
  obtain ⟨Bg, hBg⟩ : ∃ Bg, Bg = w.heap.size + 1 := ⟨_, rfl⟩
  have hBgl : w.heap.size < Bg := by omega
  have hBgH := Lib.hid hBg
  clear hBg
  go_loopg [21] n (fun g i wr => ∃ (k : Nat) (f : Nat → Value), k + g = n ∧ i = .int .i64 (k : Int) ∧ Hid (Below w.heap.size w wr) ∧ Hid (wr.heap.size = Bg + k) ∧ Hid (wr.rowIs w.heap.size 190 n f) ∧ Hid (∀ j, j < k → f j = .pointer (some ⟨Bg + j, 0, none⟩)) ∧ Hid (Forest wr Bg k fun j => j))
  case atStart => exact ⟨0, _, by omega, rfl, Lib.hid (bl_al (bl_refl _) _), Lib.hid (by rw [hBgH.out]; simp), Lib.hid (by have := rowIs_make w #[.pointer none] n 190; simpa [Value.cells] using this), Lib.hid (fun j hj => by omega), Lib.hid (fun j hj => by omega)⟩
  case round =>
    obtain ⟨k, f, hk, rfl, hbw, hsz, hrow, hf, hFo⟩ := hrel
    by_cases hkn : k < n
    · have hc0 := hrow.out.cell hkn
      have hf0 := hrow.out.frozen k
      have hl0 := hrow.out.lt
      go_wp2
      go_roundg (n - (k + 1))
      case measure => omega
      case rel =>
        refine ⟨k + 1, _, by omega, by go_num, Lib.hid ?_, Lib.hid ?_, Lib.hid ((hrow.out.set k _).alloc _), Lib.hid fun j hj => ?_, Lib.hid (((hFo.out.setBelow (p := ⟨w.heap.size, k, none⟩) hBgl _).one (by simpa using hsz.out) _))⟩
        · exact (hbw.out.setCell (p := ⟨w.heap.size, k, none⟩) (Nat.le_refl _) _).alloc (by simp; omega) _
        · have := hsz.out
          simp; omega
        · rcases Nat.lt_succ_iff_lt_or_eq.1 hj with hj | rfl
          · show (if j = k then _ else f j) = _
            rw [if_neg (by omega)]; exact hf.out j hj
          · show (if j = j then _ else f j) = _
            rw [if_pos rfl, hsz.out]
    · obtain rfl : k = n := by omega
      have hrowK := Lib.hid (hrow.out.congr (g := fun j => .pointer (some ⟨Bg + j, 0, none⟩)) hf.out)
      have hszl : Bg ≤ wr.heap.size := by have := hsz.out; omega
      obtain ⟨wa, rfl⟩ : ∃ wa : World, wa = wr := ⟨_, rfl⟩
      clear hrow hf hsz
      go_wp2
      go_loopg [33] m (fun g i wr => ∃ (j : Nat), j + g = m ∧ i = .int .i64 (j : Int) ∧ Hid (Below w.heap.size w wr) ∧ Bg ≤ wr.heap.size ∧ Hid (wr.rowIs w.heap.size 190 k fun j => .pointer (some ⟨Bg + j, 0, none⟩)) ∧ Hid (Forest wr Bg k (labOf bs j)))
      case atStart => exact ⟨0, by omega, rfl, hbw, hszl, hrowK, hFo⟩
      case round =>
        clear hbw hszl hrowK hFo
        obtain ⟨j, hj, rfl, hbw, hszl, hrowK, hFo⟩ := hrel
        by_cases hjm : j < m
        · have hBw := hBH.out.below RBd.stable hbw.out
          obtain ⟨bb, ob, rfl, hbb, hbc⟩ := hBw.ptr (by omega)
          obtain ⟨e, he⟩ := hBw.get hjm
          obtain ⟨e0, e1, e2⟩ := hbc j e he
          obtain ⟨hea, heb⟩ := hbsH.out j e he
          have hlab := Lib.hid (labOf_succ he)
          have hLab := Lib.hid (Lab.of bs j)
          obtain ⟨f, hf⟩ : ∃ f, labOf bs j = f := ⟨_, rfl⟩
          rw [hf] at hFo hlab hLab
          have hla := hLab.out.le e.a
          have hlb := hLab.out.le e.b
          have hia := hLab.out.idem e.a
          have hib := hLab.out.idem e.b
          have a4 := hFo.out.root hia (by omega)
          have b4 := hFo.out.root hib (by omega)
          obtain ⟨a1, a2, a3, _⟩ := hFo.out (f e.a) (by omega)
          obtain ⟨b1, b2, b3, _⟩ := hFo.out (f e.b) (by omega)
          have ra := hrowK.out.cell (i := e.a) hea
          have rb := hrowK.out.cell (i := e.b) heb
          have hl0 := hrowK.out.lt
          have hiaH := Lib.hid hia
          have hibH := Lib.hid hib
          have hfH := Lib.hid hf
          clear hbc he hBw hf hia hib
          obtain ⟨la, hlaE⟩ : ∃ la, f e.a = la := ⟨_, rfl⟩
          obtain ⟨lb, hlbE⟩ : ∃ lb, f e.b = lb := ⟨_, rfl⟩
          rw [hlaE] at a1 a2 a3 a4 hla
          rw [hlbE] at b1 b2 b3 b4 hlb
          have hlaH := Lib.hid hlaE
          have hlbH := Lib.hid hlbE
          rcases Nat.lt_trichotomy la lb with hlt | heq | hgt
          · go_wp2
            refine wp_region_ord [(0, .q), (1, .q), (2, .q), (3, .q), (4, .q), (6, .q), (7, .q), (8, .q), (9, .q), (10, .q), (5, .g), (11, .g), (12, .q), (13, .q)] (by kernel_rfl) (by kernel_rfl) ?_
            simp only [pick, List.filterMap_cons, List.filterMap_nil, List.getElem?_toArray, List.getElem?_cons_zero, List.getElem?_cons_succ, Option.map_some]
            repeat (first
              | ((with_reducible refine wpD_p (fun K hK => ?_)); go_simp; refine hK _ ?_; clear hK K)
              | ((with_reducible refine wpD_q (fun K hK => ?_)); go_simp; (first | refine hK _ ?_ | (go_bits; refine hK _ ?_) | (go_bits; go_simp; refine hK _ ?_)); clear hK K)
              | ((with_reducible refine wpD_g (fun K hK => ?_)); go_simp; refine hK _ _ ?_; clear hK K)
              | ((with_reducible refine wpD_g (fun K hK => ?_)); go_simp; refine ⟨Grew.of_alloc _, hK _ _ ?_⟩; clear hK K)
              | ((with_reducible refine wpD_g (fun K hK => ?_)); go_simp; go_at_call 151; refine (first_any _ _ _ _ _ (hFo.out.below (by repeat (first | with_reducible exact bl_refl _ | with_reducible assumption | with_reducible refine bl_al ?_ _ | with_reducible refine bl_dr ?_ | with_reducible refine bl_tr ?_ (by assumption) | with_reducible refine bl_set ?_ ?_ _ | with_reducible exact Nat.le_refl _ | omega | (simp only [World.size_alloc, World.size_setCell, World.size_drew] at *; omega) | (dsimp only; omega) | (simp; done) | (simp; omega)))) (by omega)).mono ?_; rintro e _ ⟨rfl, rfl⟩; refine ⟨_, rfl, Below.refl _ _, hK _ _ ?_⟩; clear hK K))
            with_reducible refine wpD_nil ?_
            go_wp2
            refine wp_region_ord [(0, .q), (1, .q), (2, .q), (3, .q), (4, .q), (5, .q), (6, .q), (7, .q), (8, .q), (9, .q)] (by kernel_rfl) (by kernel_rfl) ?_
            simp only [pick, List.filterMap_cons, List.filterMap_nil, List.getElem?_toArray, List.getElem?_cons_zero, List.getElem?_cons_succ, Option.map_some]
            repeat (first | ((with_reducible refine wpD_p (fun K hK => ?_)); go_simp; refine hK _ ?_; clear hK K) | ((with_reducible refine wpD_q (fun K hK => ?_)); go_simp; (first | refine hK _ ?_ | (go_bits; refine hK _ ?_) | (go_bits; go_simp; refine hK _ ?_)); clear hK K))
            with_reducible refine wpD_nil ?_
            go_wp2
            go_roundg (m - (j + 1))
            case measure => omega
            case rel =>
              refine ⟨j + 1, by omega, by go_num, Lib.hid ?_, ?_, Lib.hid ?_, Lib.hid ?_⟩
              · exact (((hbw.out.setCell (p := ⟨Bg + lb, 0, none⟩) (by simp; omega) _).alloc (by simp; omega) _).drew).drew
              · simp; omega
              · exact ((hrowK.out.setOther (a := ⟨Bg + lb, 0, none⟩) (by simp; omega) _).alloc _).drew.drew
              · rw [hlab.out, relab_lt (by omega), hlaE, hlbE]
                exact (hFo.out.led hLab.out (x := la) (y := lb) (by rw [← hlaE]; exact hiaH.out) (by rw [← hlbE]; exact hibH.out) hlt (by omega)).below (by repeat (first | with_reducible exact bl_refl _ | with_reducible assumption | with_reducible refine bl_al ?_ _ | with_reducible refine bl_dr ?_ | with_reducible refine bl_tr ?_ (by assumption) | with_reducible refine bl_set ?_ ?_ _ | with_reducible exact Nat.le_refl _ | omega | (simp only [World.size_alloc, World.size_setCell, World.size_drew] at *; omega) | (dsimp only; omega) | (simp; done) | (simp; omega)))
          · subst heq
            go_wp2
            refine wp_region_ord [(0, .q), (1, .q), (2, .q), (3, .q), (4, .q), (6, .q), (7, .q), (8, .q), (9, .q), (10, .q), (5, .g), (11, .g), (12, .q), (13, .q)] (by kernel_rfl) (by kernel_rfl) ?_
            simp only [pick, List.filterMap_cons, List.filterMap_nil, List.getElem?_toArray, List.getElem?_cons_zero, List.getElem?_cons_succ, Option.map_some]
            repeat (first
              | ((with_reducible refine wpD_p (fun K hK => ?_)); go_simp; refine hK _ ?_; clear hK K)
              | ((with_reducible refine wpD_q (fun K hK => ?_)); go_simp; (first | refine hK _ ?_ | (go_bits; refine hK _ ?_) | (go_bits; go_simp; refine hK _ ?_)); clear hK K)
              | ((with_reducible refine wpD_g (fun K hK => ?_)); go_simp; refine hK _ _ ?_; clear hK K)
              | ((with_reducible refine wpD_g (fun K hK => ?_)); go_simp; refine ⟨Grew.of_alloc _, hK _ _ ?_⟩; clear hK K)
              | ((with_reducible refine wpD_g (fun K hK => ?_)); go_simp; go_at_call 151; refine (first_any _ _ _ _ _ (hFo.out.below (by repeat (first | with_reducible exact bl_refl _ | with_reducible assumption | with_reducible refine bl_al ?_ _ | with_reducible refine bl_dr ?_ | with_reducible refine bl_tr ?_ (by assumption) | with_reducible refine bl_set ?_ ?_ _ | with_reducible exact Nat.le_refl _ | omega | (simp only [World.size_alloc, World.size_setCell, World.size_drew] at *; omega) | (dsimp only; omega) | (simp; done) | (simp; omega)))) (by omega)).mono ?_; rintro e _ ⟨rfl, rfl⟩; refine ⟨_, rfl, Below.refl _ _, hK _ _ ?_⟩; clear hK K))
            with_reducible refine wpD_nil ?_
            go_wp2
            refine wp_region_ord [(0, .q), (1, .q), (2, .q), (3, .q), (4, .q), (5, .q), (6, .q), (7, .q), (8, .q), (9, .q)] (by kernel_rfl) (by kernel_rfl) ?_
            simp only [pick, List.filterMap_cons, List.filterMap_nil, List.getElem?_toArray, List.getElem?_cons_zero, List.getElem?_cons_succ, Option.map_some]
            repeat (first | ((with_reducible refine wpD_p (fun K hK => ?_)); go_simp; refine hK _ ?_; clear hK K) | ((with_reducible refine wpD_q (fun K hK => ?_)); go_simp; (first | refine hK _ ?_ | (go_bits; refine hK _ ?_) | (go_bits; go_simp; refine hK _ ?_)); clear hK K))
            with_reducible refine wpD_nil ?_
            go_wp2
            refine wp_region_ord [(0, .q), (1, .q), (2, .q), (3, .q), (4, .q), (5, .q), (6, .q), (7, .q), (8, .q), (9, .q)] (by kernel_rfl) (by kernel_rfl) ?_
            simp only [pick, List.filterMap_cons, List.filterMap_nil, List.getElem?_toArray, List.getElem?_cons_zero, List.getElem?_cons_succ, Option.map_some]
            repeat (first | ((with_reducible refine wpD_p (fun K hK => ?_)); go_simp; refine hK _ ?_; clear hK K) | ((with_reducible refine wpD_q (fun K hK => ?_)); go_simp; (first | refine hK _ ?_ | (go_bits; refine hK _ ?_) | (go_bits; go_simp; refine hK _ ?_)); clear hK K))
            with_reducible refine wpD_nil ?_
            go_wp2
            go_roundg (m - (j + 1))
            case measure => omega
            case rel =>
              refine ⟨j + 1, by omega, by go_num, Lib.hid ?_, ?_, Lib.hid ?_, Lib.hid ?_⟩
              · exact ((hbw.out.alloc (by omega) _).drew).drew.drew
              · simp; omega
              · exact (hrowK.out.alloc _).drew.drew.drew
              · rw [hlab.out, relab_eq (by omega)]
                exact hFo.out.below (by repeat (first | with_reducible exact bl_refl _ | with_reducible assumption | with_reducible refine bl_al ?_ _ | with_reducible refine bl_dr ?_ | with_reducible refine bl_tr ?_ (by assumption) | with_reducible refine bl_set ?_ ?_ _ | with_reducible exact Nat.le_refl _ | omega | (simp only [World.size_alloc, World.size_setCell, World.size_drew] at *; omega) | (dsimp only; omega) | (simp; done) | (simp; omega)))
          · go_wp2
            refine wp_region_ord [(0, .q), (1, .q), (2, .q), (3, .q), (4, .q), (6, .q), (7, .q), (8, .q), (9, .q), (10, .q), (5, .g), (11, .g), (12, .q), (13, .q)] (by kernel_rfl) (by kernel_rfl) ?_
            simp only [pick, List.filterMap_cons, List.filterMap_nil, List.getElem?_toArray, List.getElem?_cons_zero, List.getElem?_cons_succ, Option.map_some]
            repeat (first
              | ((with_reducible refine wpD_p (fun K hK => ?_)); go_simp; refine hK _ ?_; clear hK K)
              | ((with_reducible refine wpD_q (fun K hK => ?_)); go_simp; (first | refine hK _ ?_ | (go_bits; refine hK _ ?_) | (go_bits; go_simp; refine hK _ ?_)); clear hK K)
              | ((with_reducible refine wpD_g (fun K hK => ?_)); go_simp; refine hK _ _ ?_; clear hK K)
              | ((with_reducible refine wpD_g (fun K hK => ?_)); go_simp; refine ⟨Grew.of_alloc _, hK _ _ ?_⟩; clear hK K)
              | ((with_reducible refine wpD_g (fun K hK => ?_)); go_simp; go_at_call 151; refine (first_any _ _ _ _ _ (hFo.out.below (by repeat (first | with_reducible exact bl_refl _ | with_reducible assumption | with_reducible refine bl_al ?_ _ | with_reducible refine bl_dr ?_ | with_reducible refine bl_tr ?_ (by assumption) | with_reducible refine bl_set ?_ ?_ _ | with_reducible exact Nat.le_refl _ | omega | (simp only [World.size_alloc, World.size_setCell, World.size_drew] at *; omega) | (dsimp only; omega) | (simp; done) | (simp; omega)))) (by omega)).mono ?_; rintro e _ ⟨rfl, rfl⟩; refine ⟨_, rfl, Below.refl _ _, hK _ _ ?_⟩; clear hK K))
            with_reducible refine wpD_nil ?_
            go_wp2
            refine wp_region_ord [(0, .q), (1, .q), (2, .q), (3, .q), (4, .q), (5, .q), (6, .q), (7, .q), (8, .q), (9, .q)] (by kernel_rfl) (by kernel_rfl) ?_
            simp only [pick, List.filterMap_cons, List.filterMap_nil, List.getElem?_toArray, List.getElem?_cons_zero, List.getElem?_cons_succ, Option.map_some]
            repeat (first | ((with_reducible refine wpD_p (fun K hK => ?_)); go_simp; refine hK _ ?_; clear hK K) | ((with_reducible refine wpD_q (fun K hK => ?_)); go_simp; (first | refine hK _ ?_ | (go_bits; refine hK _ ?_) | (go_bits; go_simp; refine hK _ ?_)); clear hK K))
            with_reducible refine wpD_nil ?_
            have hgt' : ¬ la < lb := by omega
            go_wp2
            refine wp_region_ord [(0, .q), (1, .q), (2, .q), (3, .q), (4, .q), (5, .q), (6, .q), (7, .q), (8, .q), (9, .q)] (by kernel_rfl) (by kernel_rfl) ?_
            simp only [pick, List.filterMap_cons, List.filterMap_nil, List.getElem?_toArray, List.getElem?_cons_zero, List.getElem?_cons_succ, Option.map_some]
            repeat (first | ((with_reducible refine wpD_p (fun K hK => ?_)); go_simp; refine hK _ ?_; clear hK K) | ((with_reducible refine wpD_q (fun K hK => ?_)); go_simp; (first | refine hK _ ?_ | (go_bits; refine hK _ ?_) | (go_bits; go_simp; refine hK _ ?_)); clear hK K))
            with_reducible refine wpD_nil ?_
            go_wp2
            go_roundg (m - (j + 1))
            case measure => omega
            case rel =>
              refine ⟨j + 1, by omega, by go_num, Lib.hid ?_, ?_, Lib.hid ?_, Lib.hid ?_⟩
              · exact (((hbw.out.setCell (p := ⟨Bg + la, 0, none⟩) (by simp; omega) _).alloc (by simp; omega) _).drew).drew.drew
              · simp; omega
              · exact ((hrowK.out.setOther (a := ⟨Bg + la, 0, none⟩) (by simp; omega) _).alloc _).drew.drew.drew
              · rw [hlab.out, relab_gt (by omega), hlaE, hlbE]
                exact (hFo.out.led hLab.out (x := lb) (y := la) (by rw [← hlbE]; exact hibH.out) (by rw [← hlaE]; exact hiaH.out) hgt (by omega)).below (by repeat (first | with_reducible exact bl_refl _ | with_reducible assumption | with_reducible refine bl_al ?_ _ | with_reducible refine bl_dr ?_ | with_reducible refine bl_tr ?_ (by assumption) | with_reducible refine bl_set ?_ ?_ _ | with_reducible exact Nat.le_refl _ | omega | (simp only [World.size_alloc, World.size_setCell, World.size_drew] at *; omega) | (dsimp only; omega) | (simp; done) | (simp; omega)))
        · obtain rfl : j = m := by omega
          obtain ⟨f, hf⟩ : ∃ f, labOf bs j = f := ⟨_, rfl⟩
          have hLab := Lib.hid (Lab.of bs j)
          rw [hf] at hFo hLab
          have hfH := Lib.hid hf
          clear hf
          obtain ⟨wb, rfl⟩ : ∃ wb : World, wb = wr := ⟨_, rfl⟩
          have hwb : w.heap.size < wb.heap.size := by omega
          go_wp2
          go_loopg [81, 11] k (fun g i v wr => ∃ (t : Nat) (us : List Value), t + g = k ∧ i = .int .i64 (t : Int) ∧ Hid (Own2 wr (wb.heap.size + 1) 29 2 1 v us ((groupsL f t).map intsN)) ∧ Hid (∃ c, c ≤ t ∧ IMap wr wb.heap.size c (placeM f t)) ∧ Hid (Below wb.heap.size wb wr) ∧ wb.heap.size < wr.heap.size)
          case atStart => exact ⟨0, [], by omega, rfl, Lib.hid (Own2.nil _ _ _ _ _), Lib.hid ⟨0, Nat.le_refl _, by rw [placeM_zero]; exact IMap.made wb⟩, Lib.hid (bl_al (bl_refl _) _), by simp⟩
          case round =>
            obtain ⟨t, us, ht, rfl, hO, hM, hbq, hszq⟩ := hrel
            by_cases htk : t < k
            · have ra := (hbq.out.cell (p := ⟨w.heap.size, t, none⟩) hwb).trans (hrowK.out.cell (i := t) htk)
              have hl0 : w.heap.size < wr.heap.size := by omega
              have hle := hLab.out.le t
              have hid := Lib.hid (hLab.out.idem t)
              have hFq := Lib.hid (hFo.out.below hbq.out)
              obtain ⟨r, hr⟩ : ∃ r, f t = r := ⟨_, rfl⟩
              have hul : us.length = (rootsL f t).length := by rw [hO.out.len]; simp [groupsL]
              have hrl := rootsL_len f t
              have hulH := Lib.hid hul
              obtain ⟨A0, cap0, rfl⟩ := hO.out.form hul
              rw [hr] at hle
              obtain ⟨a1, a2, a3, _⟩ := hFq.out r (by omega)
              have hrH := Lib.hid hr
              obtain ⟨c0, hc0, hM0⟩ := hM.out
              have hM0 := Lib.hid hM0
              clear hul hM
              by_cases hrt : r = t
              · subst hrt
                have hno := Lib.hid (placeM_no (f := f) (m := r))
                have hns : (placeM f r r).isSome = false := by rw [hno.out]; rfl
                obtain ⟨p, hp⟩ : ∃ p, (rootsL f r).length = p := ⟨_, rfl⟩
                rw [hp] at hrl hO hulH ⊢
                have hpH := Lib.hid hp
                clear hp
                go_wp2_with (first
                  | (go_at_call 151; refine (first_any Bg k r f wr hFq.out htk).mono ?_; rintro e _ ⟨rfl, rfl⟩)
                  | (at_lookup; refine wpList_look_imap _ rfl _ _ rfl wb.heap.size c0 _ rfl hM0.out r (by omega) rfl ?_; intro c hc)
                  | (at_mapUpdate; refine wpList_put_imap _ rfl _ _ _ rfl wb.heap.size c0 _ rfl hM0.out r p (by omega) (by omega) (by unfold maxLen; omega) rfl rfl ?_; intro w1 hM1 hg1; have hM1H := Lib.hid hM1; have hO1 := Lib.hid (hO.out.keptBelow hg1 (by intro g e; injection e with e; omega)); have hs1 : wb.heap.size < w1.heap.size := Nat.lt_of_lt_of_le hszq hg1.size; clear hM1)
                  | (at_builtin; refine wpList_append_own_at _ rfl _ _ 82 rfl (wb.heap.size + 1) 29 i0 (.slice none 0 0) 1 24 Try.underlying82 hi hz0 hz1 hz2 rfl (by decide) _ p us rfl ((hO1.out.outerN hulH.out).alloc _) ⟨w1.heap.size, 0, none⟩ 1 1 [.slice none 0 0] rfl rfl (cell_one_new _ _ _) (fun x hx => by simp at hx; subst hx; rfl) (by unfold maxLen; omega) (by omega) (by simp; omega) ?_; intro v2 w2 hown2 hgrow2 _ hat2; have hO2 := (hO1.out.alloc _).push hulH.out (x := .slice none 0 0) (r := []) (n := 0) (World.ownsRow_nil _ _ _ _) (fun g e => by simp [Value.ownBlock] at e) hown2 hgrow2 hat2; have hN2 := Lib.hid (show (us ++ [Value.slice none 0 0]).length = p + 1 by simp [hulH.out]); have hu2 := Lib.hid (show (us ++ [Value.slice none 0 0])[p]? = some (.slice none 0 0) by rw [← hulH.out]; simp); obtain ⟨g2, cap2, rfl⟩ := hO2.formPos hN2.out (by omega); obtain ⟨q1, q2, q3⟩ := hO2.cellAt hN2.out hu2.out; have hO2 := Lib.hid hO2; have hbA := Lib.hid (below_app (B0 := wb.heap.size + 1) hs1 (fun g e => (hO1.out.lt g e).1) hgrow2); clear hown2 hgrow2 hat2)
                  | (at_builtin; refine wpList_append_own_at _ rfl _ _ 29 rfl (wb.heap.size + 1) 2 i1 (.int .i64 0) 1 8 Try.underlying29 hi' hz0' hz1' hz2' rfl (by decide) _ 0 [] rfl (World.ownsRow_nil _ _ _ _) ⟨w2.heap.size, 0, none⟩ 1 1 [.int .i64 (r : Int)] rfl rfl (cell_one_new _ _ _) (fun x hx => by simp at hx; subst hx; rfl) (by unfold maxLen; omega) (by omega) (by simp; have := hbA.out.size; omega) ?_; intro u3 w3 hown3 hgrow3 _ hat3; obtain ⟨g3, cap3, rfl⟩ := ownsRow_succ hown3; obtain ⟨z1, z2, z3, z4⟩ := (hO2.out.alloc _).after hN2.out hu2.out hgrow3; have hown3H := Lib.hid hown3; have hgrow3H := Lib.hid hgrow3; have hat3H := Lib.hid hat3; clear hown3 hgrow3 hat3))
                have hb3 := Lib.hid (below_app (B0 := wb.heap.size + 1) (W := w2) (row := none) (by have := hbA.out.size; omega) (fun g e => by cases e) hgrow3H.out)
                have hb1 := Lib.hid ((Below.refl wb.heap.size wr).grown hg1 (by omega) (fun g e => by injection e with e; omega))
                go_roundg (k - (r + 1))
                case measure => omega
                case rel =>
                  have hbF : Below (wb.heap.size + 1) w1 (w3.setCell ⟨g2, p, none⟩ (.slice (some ⟨g3, 0, none⟩) (0 + 1) cap3)) := (hbA.out.trans hb3.out).setCell (p := ⟨g2, p, none⟩) z4 _
                  refine ⟨r + 1, (us ++ [Value.slice none 0 0]).set p (.slice (some ⟨g3, 0, none⟩) (0 + 1) cap3), by omega, by go_num, Lib.hid ?_, Lib.hid ⟨c0 + 1, by omega, ?_⟩, Lib.hid ?_, ?_⟩
                  · have hF := (hO2.out.alloc _).grow hN2.out hu2.out hown3H.out hgrow3H.out hat3H.out
                    have hrw : ((groupsL f r).map intsN ++ [[]]).set p ([] ++ [Value.int .i64 (r : Int)]) = (groupsL f (r + 1)).map intsN := by
                      rw [groupsL_new hLab.out.le hrH.out, List.map_append, ← hpH.out, List.set_append_right _ _ (by simp [groupsL])]
                      simp [groupsL, intsN]
                    rw [hrw] at hF
                    exact hF
                  · rw [placeM_new hrH.out, hpH.out]
                    exact hM1H.out.block (hbF.block _ (by omega))
                  · exact hbq.out.trans (hb1.out.trans (hbF.mono (by omega)))
                  · exact Nat.lt_of_lt_of_le hs1 hbF.size
              · have hlt : r < t := by omega
                have hne : f t ≠ t := by rw [hrH.out]; exact hrt
                have hneH := Lib.hid hne
                have hidr : f r = r := by
                  have := hid.out
                  rw [hrH.out] at this
                  exact this
                obtain ⟨p, hp⟩ : ∃ p, (rootsL f r).length = p := ⟨_, rfl⟩
                have hpl := rootsL_lt hlt hidr
                have hgt := rootsL_at hlt hidr
                obtain ⟨N0, hN0⟩ : ∃ N0, (rootsL f t).length = N0 := ⟨_, rfl⟩
                rw [hN0] at hO hulH hrl hpl ⊢
                rw [hp] at hpl hgt
                obtain ⟨g2, cap2, hv⟩ := hO.out.formPos hulH.out (by omega)
                injection hv with hv1 hv2 hv3
                subst hv1 hv3
                clear hN0 hv2
                have hyes := Lib.hid (placeM_yes hlt hidr)
                have hys : (placeM f t r).isSome = true := by rw [hyes.out]; rfl
                have hpH := Lib.hid hp
                have hidrH := Lib.hid hidr
                obtain ⟨u, hu⟩ : ∃ u, us[p]? = some u := ⟨_, List.getElem?_eq_getElem (by rw [hulH.out]; exact hpl)⟩
                obtain ⟨n', r', hr', hown0⟩ := hO.out.get hu
                rw [List.getElem?_map, groupsL_get, hgt] at hr'
                simp only [Option.map_some, Option.some.injEq] at hr'
                subst hr'
                obtain ⟨A1, cap1, rfl⟩ := ownsRow_form hown0
                have huH := Lib.hid hu
                have hownH := Lib.hid hown0
                have hl' := hown0.1
                rw [intsN_len, Nat.mul_one] at hl'
                have hll : n' ≤ t := by
                  rw [← hl']
                  have := List.length_filter_le (fun k => f k == r) (List.range t)
                  simpa [partL] using this
                have hO2 := hO
                obtain ⟨q1, q2, q3⟩ := hO2.out.cellAt hulH.out hu
                clear hp hidr hu hown0 hl' hO hgt
                go_wp2_with (first
                  | (go_at_call 151; refine (first_any Bg k t f wr hFq.out htk).mono ?_; rintro e _ ⟨rfl, rfl⟩)
                  | (at_lookup; refine wpList_look_imap _ rfl _ _ rfl wb.heap.size c0 _ rfl hM0.out r (by omega) rfl ?_; intro c hc; obtain rfl := hc p (by rw [hyes.out, hpH.out]))
                  | (at_builtin; refine wpList_append_own_at _ rfl _ _ 29 rfl (wb.heap.size + 1) 2 i1 (.int .i64 0) 1 8 Try.underlying29 hi' hz0' hz1' hz2' rfl (by decide) _ n' (intsN (partL f t r)) rfl (hownH.out.alloc _) ⟨wr.heap.size, 0, none⟩ 1 1 [.int .i64 (t : Int)] rfl rfl (cell_one_new _ _ _) (fun x hx => by simp at hx; subst hx; rfl) (by unfold maxLen; omega) (by omega) (by simp; omega) ?_; intro u3 w3 hown3 hgrow3 _ hat3; obtain ⟨g3, cap3, rfl⟩ := ownsRow_succ hown3; obtain ⟨z1, z2, z3, z4⟩ := (hO2.out.alloc _).after hulH.out huH.out hgrow3; have hown3H := Lib.hid hown3; have hgrow3H := Lib.hid hgrow3; have hat3H := Lib.hid hat3; clear hown3 hgrow3 hat3))
                have hb3 := Lib.hid (below_app (B0 := wb.heap.size + 1) (W := wr) (by omega) (fun g e => (hownH.out.lt g e).1) hgrow3H.out)
                go_roundg (k - (t + 1))
                case measure => omega
                case rel =>
                  have hbF : Below (wb.heap.size + 1) wr (w3.setCell ⟨g2, p, none⟩ (.slice (some ⟨g3, 0, none⟩) (n' + 1) cap3)) := hb3.out.setCell (p := ⟨g2, p, none⟩) z4 _
                  refine ⟨t + 1, us.set p (.slice (some ⟨g3, 0, none⟩) (n' + 1) cap3), by omega, by go_num, Lib.hid ?_, Lib.hid ⟨c0, by omega, ?_⟩, Lib.hid ?_, ?_⟩
                  · have hF := (hO2.out.alloc _).grow hulH.out huH.out hown3H.out hgrow3H.out hat3H.out
                    have hrw : ((groupsL f t).map intsN).set p (intsN (partL f t r) ++ [Value.int .i64 (t : Int)]) = (groupsL f (t + 1)).map intsN := by
                      rw [groupsL_old hneH.out (by rw [hrH.out]; exact hlt) (by rw [hrH.out]; exact hidrH.out), hrH.out, hpH.out, List.map_set]
                      simp [intsN]
                    rw [hrw] at hF
                    exact hF
                  · rw [placeM_old hneH.out]
                    exact hM0.out.block (hbF.block _ (by omega))
                  · exact hbq.out.trans (hbF.mono (by omega))
                  · exact Nat.lt_of_lt_of_le hszq hbF.size
            · obtain rfl : t = k := by omega
              obtain ⟨A0, cap0, rfl⟩ := hO.out.form rfl
              go_wp2
              go_ret
              refine ⟨_, us, rfl, ?_, ?_⟩
              · rw [hfH.out]
                exact hO.out.rebase (by omega)
              · exact hbw.out.trans (hbq.out.mono (by omega))
end Go.Proofs.Ytfabgnnpgepcoaa
