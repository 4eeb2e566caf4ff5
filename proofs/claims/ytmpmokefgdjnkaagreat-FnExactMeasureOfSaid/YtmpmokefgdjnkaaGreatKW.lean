import Derived.Test.YtmpmokefgdjnkaaGreatKR
import Derived.Test.YtmpmokefgdjnkaaGreatKP
import Derived.Test.YtmpmokefgdjnkaaGreatW8
import Derived.Maps.OwnSet
import Derived.Test.YtmpmokefgdjnkaaGreatN1
import Derived.Test.YtmpmokefgdjnkaaGreatHTo
set_option linter.unusedSimpArgs false
set_option linter.unusedVariables false
/- Walks: groups that are merged by pointers to their leaders. -/


namespace Go.Proofs.YtmpmokefgdjnkaaGreat
open Go.RowKit Go.Shelf
attribute [local go_sem] BelowBy.cell BelowBy.cell_drew stillUpon givesUpon BelowBy.cell_drew2 BelowBy.cell_drew3

/-- the groups' elements lie in n blocks from Bg on; who leads whom -/
def Forest (w : World) (Bg n : Nat) (f : Nat → Nat) : Prop := ∀ i, i < n → Bg + i < w.heap.size ∧ w.cell? ⟨Bg + i, 1, none⟩ = some (.int .i64 (i : Int)) ∧ w.frozen? ⟨Bg + i, 0, none⟩ = false ∧
  ((f i = i ∧ w.cell? ⟨Bg + i, 0, none⟩ = some (.pointer none)) ∨ (f i ≠ i ∧ ∃ j, j < i ∧ f j = f i ∧ w.cell? ⟨Bg + i, 0, none⟩ = some (.pointer (some ⟨Bg + j, 0, none⟩))))
theorem Forest.below {w w' : World} {Bg n : Nat} {f : Nat → Nat} (h : Forest w Bg n f) (hb : Below w.heap.size w w') : Forest w' Bg n f := fun i hi => by
  obtain ⟨h1, h2, h3, h4⟩ := h i hi
  refine ⟨Nat.lt_of_lt_of_le h1 hb.size, (hb.cell (p := ⟨Bg + i, 1, none⟩) h1).trans h2, (hb.frozen (p := ⟨Bg + i, 0, none⟩) h1).trans h3, ?_⟩
  rcases h4 with ⟨h5, h6⟩ | ⟨h5, j, h6, h7, h8⟩
  · exact .inl ⟨h5, (hb.cell (p := ⟨Bg + i, 0, none⟩) h1).trans h6⟩
  · exact .inr ⟨h5, j, h6, h7, (hb.cell (p := ⟨Bg + i, 0, none⟩) h1).trans h8⟩
set_option maxHeartbeats 1000000 in
theorem first_any (Bg n i : Nat) (f : Nat → Nat) (w : World) (hF : Forest w Bg n f) (hi : i < n) :
    Calls Tryz.prog 149 #[.pointer (some ⟨Bg + i, 0, none⟩)] w fun e w' => e = .returned (.pointer (some ⟨Bg + f i, 0, none⟩)) ∧ w = w' := by
  have hH := Lib.hid hF
  clear hF
  go_enter Tryz.func149, Tryz.ntmps149
  go_wp2
  go_loopg [0] i (fun r x wr => ∃ j : Nat, j = r ∧ j < n ∧ Hid (f j = f i) ∧ x = .pointer (some ⟨Bg + j, 0, none⟩) ∧ w = wr)
  case atStart => exact ⟨i, rfl, hi, Lib.hid rfl, rfl, rfl⟩
  case round =>
    obtain ⟨j, rfl, hj, hfj, rfl, rfl⟩ := hrel
    obtain ⟨hl, h1, _, h⟩ := hH.out j hj
    rcases h with ⟨hr, hc⟩ | ⟨hr, j2, hj2, hf2, hc⟩
    · have hrH := Lib.hid hr
      clear hr
      go_wp2
      go_ret
      have hji : f i = j := by rw [← hfj.out, hrH.out]
      rw [hji]
      exact ⟨rfl, rfl⟩
    · have hfH := Lib.hid hf2
      clear hf2 hr
      go_wp2
      go_roundg j2
      case measure => omega
      case rel => exact ⟨j2, rfl, by omega, Lib.hid (hfH.out.trans hfj.out), rfl, rfl⟩
/-- a leader gets a leader -/
theorem Forest.led {w : World} {Bg n x y : Nat} {f : Nat → Nat} (h : Forest w Bg n f) (hL : Lab f) (hx : f x = x) (hy : f y = y) (hxy : x < y) (hyn : y < n) :
    Forest (w.setCell ⟨Bg + y, 0, none⟩ (.pointer (some ⟨Bg + x, 0, none⟩))) Bg n (fun k => if f k = y then x else f k) := fun i hi => by
  obtain ⟨h1, h2, h3, h4⟩ := h i hi
  have hfx : f x ≠ y := by omega
  refine ⟨by simpa using h1, ?_, by simpa using h3, ?_⟩
  · rw [World.cell?_setCell_other _ _ _ _ (by simp)]; exact h2
  · by_cases hiy : i = y
    · subst hiy
      refine .inr ⟨by simp only [hy, if_true]; omega, x, hxy, by simp only [hy, if_true, if_neg hfx]; exact hx, ?_⟩
      rcases h4 with ⟨_, h6⟩ | ⟨_, j, _, _, h8⟩
      · exact World.cell?_setCell_same _ _ _ h6
      · exact World.cell?_setCell_same _ _ _ h8
    · have hne : (⟨Bg + y, 0, none⟩ : Addr) ≠ ⟨Bg + i, 0, none⟩ := by simp; first | omega | done
      rw [World.cell?_setCell_other _ _ _ _ hne]
      rcases h4 with ⟨h5, h6⟩ | ⟨h5, j, h6, h7, h8⟩
      · have hi2 : f i ≠ y := by omega
        exact .inl ⟨by simp only [if_neg hi2]; exact h5, h6⟩
      · refine .inr ⟨?_, j, h6, by simp only [h7], h8⟩
        by_cases h9 : f i = y
        · simp only [if_pos h9]
          intro e
          rw [← e, hx] at h9
          omega
        · simp only [if_neg h9]; exact h5
end Go.Proofs.YtmpmokefgdjnkaaGreat
/- Maps from numbers to places that a call makes. -/



namespace Go.Proofs.YtmpmokefgdjnkaaGreat
open Go.RowKit Go.Shelf
open Go.Maps (Keyed)
/-- block b is a map from numbers to places: M; at most n were laid in -/
def IMap (w : World) (b n : Nat) (M : Nat → Option Nat) : Prop :=
  ∃ D : DataW Unit, w.ownsMap Tryz.prog 2 (plainElem Tryz.prog 3) b n D ∧ ∀ k : Nat, Maps.has D (.int .i64 (k : Int)) = (M k).isSome ∧ ∀ v, M k = some v → D.atKey (.int .i64 (k : Int)) (.lit (.int .i64 0)) = .lit (.int .i64 (v : Int))
theorem IMap.made (w : World) : IMap (w.alloc (.map #[] 0)) w.heap.size 0 (fun _ => none) :=
  ⟨_, World.ownsMap_made _ _ _ _, fun k => ⟨by simp [Maps.has], fun v h => by cases h⟩⟩
theorem IMap.lt {w : World} {b n : Nat} {M : Nat → Option Nat} (h : IMap w b n M) : b < w.heap.size := by
  obtain ⟨D, h, _⟩ := h
  exact h.lt
theorem IMap.block {w w' : World} {b n : Nat} {M : Nat → Option Nat} (h : IMap w b n M) (hb : w'.heap[b]? = w.heap[b]?) : IMap w' b n M := by
  obtain ⟨D, ⟨es, clock, hh, r⟩, h2⟩ := h
  exact ⟨D, ⟨es, clock, hb.trans hh, r⟩, h2⟩
theorem int_keyed_ : Keyed Tryz.prog 2 := Maps.int_keyed Tryz.underlying2
theorem zero_int_ (w : World) : (zeroValue 3).run Tryz.prog w = .ok (.int .i64 0) w := by kernel_rfl
theorem wf_small {k : Int} (h0 : 0 ≤ k) (h1 : k ≤ 1000000000) : (Lit.int .i64 k).wf = true := by
  simp [Lit.wf, IntKind.min, IntKind.max, IntKind.bits, IntKind.signed]; omega
theorem wpList_look_imap (w : World) {ops : Array Oper} {rest : List Oper} {o : Oper} {a : Act} {Q : Exit → Act → World → Prop}
    (hg : o.guard = none) (m x : Operand) (hop : o.op = Op.lookup 215 m x true) (b n : Nat) (M : Nat → Option Nat) (hm : a.eval m = .map (some b)) (h : IMap w b n M) (k : Nat) (hk : k ≤ 1000000000) (hx : a.eval x = .int .i64 (k : Int))
    (hK : ∀ c : Int, (∀ v, M k = some v → c = v) → wpList Tryz.prog ops Q rest (a.put o.dst (.tuple #[.int .i64 c, .bool (M k).isSome])) w) : wpList Tryz.prog ops Q (o :: rest) a w := by
  obtain ⟨D, hown, hat⟩ := h
  refine wpList_lookup_own_ok_int w hg m x 215 hop 2 3 .i64 int_keyed_ Tryz.underlying215 Tryz.underlying3 (zero_int_ w) b n D hm hown _ (.int .i64 (k : Int)) hx (Maps.keyOf_int_mk Tryz.underlying2 (wf_small (by omega) (by omega))) ?_
  intro c hc hw
  rw [(hat k).1]
  refine hK c (fun v hv => ?_)
  have := (hat k).2 v hv
  rw [hc] at this
  injection this with this
  injection this
theorem wpList_put_imap (w : World) {ops : Array Oper} {rest : List Oper} {o : Oper} {a : Act} {Q : Exit → Act → World → Prop}
    (hg : o.guard = none) (m x v : Operand) (hop : o.op = Op.mapUpdate 215 m x v) (b n : Nat) (M : Nat → Option Nat) (hm : a.eval m = .map (some b)) (h : IMap w b n M) (k u : Nat) (hk : k ≤ 1000000000) (hu : u ≤ 1000000000) (hn : n < maxLen) (hx : a.eval x = .int .i64 (k : Int)) (hv : a.eval v = .int .i64 (u : Int))
    (hK : ∀ w', IMap w' b (n + 1) (fun j => if j = k then some u else M j) → w.grownBy w' (some b) → wpList Tryz.prog ops Q rest (a.put o.dst undef) w') : wpList Tryz.prog ops Q (o :: rest) a w := by
  obtain ⟨D, hown, hat⟩ := h
  refine wpList_mapUpdate_own w hg m x v 215 hop _ _ int_keyed_ Tryz.underlying215 _ b n D hm hown hn _ _ _ hx hv (Maps.keyOf_int_mk Tryz.underlying2 (wf_small (by omega) (by omega))) _ [] (plainElem_int Tryz.underlying3 (wf_small (by omega) (by omega))) ?_
  intro w' h1 h2
  refine hK w' ⟨_, h1, fun j => ?_⟩ h2
  by_cases hj : j = k
  · subst hj
    simp only [if_true]
    refine ⟨Maps.has_put_same hown.isMap (by simp [WideAt.IsKeyLit]) _, fun v hv => ?_⟩
    injection hv with hv
    subst hv
    exact Maps.atKey_put_same hown.isMap (by simp [WideAt.IsKeyLit]) _ _
  · have hne : (Lit.int .i64 (j : Int)) ≠ .int .i64 (k : Int) := by
      intro e
      injection e with _ e
      omega
    rw [Maps.has_put_other hne]
    simp only [if_neg hj]
    refine ⟨(hat j).1, fun v hv => ?_⟩
    rw [Maps.atKey_put_other hne]
    exact (hat j).2 v hv
end Go.Proofs.YtmpmokefgdjnkaaGreat
/- Walks: the program's groups by bonds. -/




namespace Go.Proofs.YtmpmokefgdjnkaaGreat
open Go.RowKit Go.Shelf
attribute [local go_sem] BelowBy.cell BelowBy.cell_drew stillUpon givesUpon BelowBy.cell_drew2 BelowBy.cell_drew3

theorem Forest.blocks {w w' : World} {Bg n : Nat} {f : Nat → Nat} (h : Forest w Bg n f) (hk : ∀ i, i < n → w'.heap[Bg + i]? = w.heap[Bg + i]?) : Forest w' Bg n f := fun i hi => by
  obtain ⟨h1, h2, h3, h4⟩ := h i hi
  have hb := hk i hi
  have hlt : Bg + i < w'.heap.size := by
    have := Array.getElem?_eq_getElem h1
    rw [← hb] at this
    exact (Array.getElem?_eq_some_iff.1 this).1
  refine ⟨hlt, (World.cell?_of_block (w := w) (a := ⟨Bg + i, 1, none⟩) hb).trans h2, (World.frozen?_of_block (w := w) (a := ⟨Bg + i, 0, none⟩) hb).trans h3, ?_⟩
  rcases h4 with ⟨h5, h6⟩ | ⟨h5, j, h6, h7, h8⟩
  · exact .inl ⟨h5, (World.cell?_of_block (w := w) (a := ⟨Bg + i, 0, none⟩) hb).trans h6⟩
  · exact .inr ⟨h5, j, h6, h7, (World.cell?_of_block (w := w) (a := ⟨Bg + i, 0, none⟩) hb).trans h8⟩
theorem Forest.one {w : World} {Bg k : Nat} (h : Forest w Bg k fun j => j) (hs : w.heap.size = Bg + k) (T : TypeId) : Forest (w.alloc (.cells #[.pointer none, .int .i64 (k : Int)] T)) Bg (k + 1) fun j => j := fun i hi => by
  rcases Nat.lt_succ_iff_lt_or_eq.1 hi with hi | rfl
  · exact (h.below (bl_al (bl_refl _) _)) i hi
  · refine ⟨by simp; omega, ?_, ?_, .inl ⟨rfl, ?_⟩⟩
    all_goals (rw [← hs]; go_simp)
theorem Forest.setBelow {w : World} {Bg n : Nat} {f : Nat → Nat} (h : Forest w Bg n f) {p : Addr} (hp : p.block < Bg) (u : Value) : Forest (w.setCell p u) Bg n f :=
  h.blocks fun i _ => Below.heap_setCell _ _ _ _ (by omega)
theorem Forest.root {w : World} {Bg n r : Nat} {f : Nat → Nat} (h : Forest w Bg n f) (hr : f r = r) (hn : r < n) : w.cell? ⟨Bg + r, 0, none⟩ = some (.pointer none) := by
  obtain ⟨_, _, _, ⟨_, h⟩ | ⟨h, _⟩⟩ := h r hn
  · exact h
  · exact (h hr).elim
theorem relab_lt {f : Nat → Nat} {a b : Nat} (h : f a < f b) : relab f a b = fun k => if f k = f b then f a else f k := by
  funext k
  unfold relab
  rw [Nat.max_eq_right (Nat.le_of_lt h), Nat.min_eq_left (Nat.le_of_lt h)]
theorem relab_gt {f : Nat → Nat} {a b : Nat} (h : f b < f a) : relab f a b = fun k => if f k = f a then f b else f k := by
  funext k
  unfold relab
  rw [Nat.max_eq_left (Nat.le_of_lt h), Nat.min_eq_right (Nat.le_of_lt h)]
theorem relab_eq {f : Nat → Nat} {a b : Nat} (h : f a = f b) : relab f a b = f := by
  funext k
  unfold relab
  rw [h, Nat.max_self, Nat.min_self]
  split
  · rename_i e; exact e.symm
  · rfl
def intsN (l : List Nat) : List Value := l.map fun x => Value.int .i64 ((x : Nat) : Int)
theorem intsN_len (l : List Nat) : (intsN l).length = l.length := by simp [intsN]
def OwnGr (w : World) (gss : List (List Nat)) (e : Ending) (w' : World) : Prop := ∃ v us, e = .returned v ∧ Own2 w' w.heap.size 58 2 1 v us (gss.map intsN) ∧ Below w.heap.size w w'
theorem infoGp : (Tryz.prog.info? 211).map (fun i => (i.zero, i.size, i.bytes)) = some (some (.pointer none), 1, 8) := by kernel_rfl
theorem infoGs : (Tryz.prog.info? 58).map (fun i => (i.zero, i.size, i.bytes)) = some (some (.slice none 0 0), 1, 24) := by kernel_rfl
set_option maxRecDepth 100000 in
set_option maxHeartbeats 2000000 in
theorem groupsBy_any (n : Nat) (B : Option Addr) (m c : Nat) (bs : List Bd) (w : World) (hB : RdSl 3 RBd w B m bs) (hn : n ≤ 100000) (hm : m ≤ 1000000) (hbs : ∀ (k : Nat) (e : Bd), bs[k]? = some e → e.a < n ∧ e.b < n) :
    Calls Tryz.prog 141 #[.int .i64 (n : Int), .slice B m c] w (OwnGr w (groupsL (labOf bs m) n)) := by
  obtain ⟨i0, hi, hz0, hz1, hz2⟩ := info_parts infoGs
  obtain ⟨i1, hi', hz0', hz1', hz2'⟩ := info_parts infoI
  have hmk := fun W => run_makeN (P := Tryz.prog) 210 211 _ 1 8 Tryz.underlying210 infoGp n (by omega) (by omega) W
  have hmm := @run_makeMap Tryz.prog
  have hBH := Lib.hid hB
  have hbsH := Lib.hid hbs
  have hml := Lib.hid hB.len
  clear hB hbs
  go_enter Tryz.func141, Tryz.ntmps141
  go_wp2
  obtain ⟨Bg, hBg⟩ : ∃ Bg, Bg = w.heap.size + 1 := ⟨_, rfl⟩
  have hBgl : w.heap.size < Bg := by omega
  have hBgH := Lib.hid hBg
  clear hBg
  go_loopg [21] n (fun g i wr => ∃ (k : Nat) (f : Nat → Value), k + g = n ∧ i = .int .i64 (k : Int) ∧ Hid (Below w.heap.size w wr) ∧ Hid (wr.heap.size = Bg + k) ∧ Hid (wr.rowIs w.heap.size 211 n f) ∧ Hid (∀ j, j < k → f j = .pointer (some ⟨Bg + j, 0, none⟩)) ∧ Hid (Forest wr Bg k fun j => j))
  case atStart => exact ⟨0, _, by omega, rfl, Lib.hid (bl_al (bl_refl _) _), Lib.hid (by rw [hBgH.out]; simp), Lib.hid (by have := rowIs_make w #[.pointer none] n 211; simpa [Value.cells] using this), Lib.hid (fun j hj => by omega), Lib.hid (fun j hj => by omega)⟩
  case round =>
    obtain ⟨k, f, hk, rfl, hbw, hsz, hrow, hf, hFo⟩ := hrel
    by_cases hkn : k < n
    · have hc0 := hrow.out.cell hkn
      have hf0 := hrow.out.frozen k
      have hl0 := hrow.out.lt
      go_wp2
      go_roundg (n - (k + 1))
      case measure => omega
      case rel =>
        refine ⟨k + 1, _, by omega, by go_num, Lib.hid ?_, Lib.hid ?_, Lib.hid ((hrow.out.set k _).alloc _), Lib.hid fun j hj => ?_, Lib.hid (((hFo.out.setBelow (p := ⟨w.heap.size, k, none⟩) hBgl _).one (by simpa using hsz.out) _))⟩
        · exact (hbw.out.setCell (p := ⟨w.heap.size, k, none⟩) (Nat.le_refl _) _).alloc (by simp; omega) _
        · have := hsz.out
          simp; omega
        · rcases Nat.lt_succ_iff_lt_or_eq.1 hj with hj | rfl
          · show (if j = k then _ else f j) = _
            rw [if_neg (by omega)]; exact hf.out j hj
          · show (if j = j then _ else f j) = _
            rw [if_pos rfl, hsz.out]
    · obtain rfl : k = n := by omega
      have hrowK := Lib.hid (hrow.out.congr (g := fun j => .pointer (some ⟨Bg + j, 0, none⟩)) hf.out)
      have hszl : Bg ≤ wr.heap.size := by have := hsz.out; omega
      obtain ⟨wa, rfl⟩ : ∃ wa : World, wa = wr := ⟨_, rfl⟩
      clear hrow hf hsz
      go_wp2
      go_loopg [33] m (fun g i wr => ∃ (j : Nat), j + g = m ∧ i = .int .i64 (j : Int) ∧ Hid (Below w.heap.size w wr) ∧ Bg ≤ wr.heap.size ∧ Hid (wr.rowIs w.heap.size 211 k fun j => .pointer (some ⟨Bg + j, 0, none⟩)) ∧ Hid (Forest wr Bg k (labOf bs j)))
      case atStart => exact ⟨0, by omega, rfl, hbw, hszl, hrowK, hFo⟩
      case round =>
        clear hbw hszl hrowK hFo
        obtain ⟨j, hj, rfl, hbw, hszl, hrowK, hFo⟩ := hrel
        by_cases hjm : j < m
        · have hBw := hBH.out.below RBd.stable hbw.out
          obtain ⟨bb, ob, rfl, hbb, hbc⟩ := hBw.ptr (by omega)
          obtain ⟨e, he⟩ := hBw.get hjm
          obtain ⟨e0, e1, e2⟩ := hbc j e he
          obtain ⟨hea, heb⟩ := hbsH.out j e he
          have hlab := Lib.hid (labOf_succ he)
          have hLab := Lib.hid (Lab.of bs j)
          obtain ⟨f, hf⟩ : ∃ f, labOf bs j = f := ⟨_, rfl⟩
          rw [hf] at hFo hlab hLab
          have hla := hLab.out.le e.a
          have hlb := hLab.out.le e.b
          have hia := hLab.out.idem e.a
          have hib := hLab.out.idem e.b
          have a4 := hFo.out.root hia (by omega)
          have b4 := hFo.out.root hib (by omega)
          obtain ⟨a1, a2, a3, _⟩ := hFo.out (f e.a) (by omega)
          obtain ⟨b1, b2, b3, _⟩ := hFo.out (f e.b) (by omega)
          have ra := hrowK.out.cell (i := e.a) hea
          have rb := hrowK.out.cell (i := e.b) heb
          have hl0 := hrowK.out.lt
          have hiaH := Lib.hid hia
          have hibH := Lib.hid hib
          have hfH := Lib.hid hf
          clear hbc he hBw hf hia hib
          obtain ⟨la, hlaE⟩ : ∃ la, f e.a = la := ⟨_, rfl⟩
          obtain ⟨lb, hlbE⟩ : ∃ lb, f e.b = lb := ⟨_, rfl⟩
          rw [hlaE] at a1 a2 a3 a4 hla
          rw [hlbE] at b1 b2 b3 b4 hlb
          have hlaH := Lib.hid hlaE
          have hlbH := Lib.hid hlbE
          rcases Nat.lt_trichotomy la lb with hlt | heq | hgt
          · go_wp2
            refine wp_region_ord [(0, .q), (1, .q), (2, .q), (3, .q), (4, .q), (6, .q), (7, .q), (8, .q), (9, .q), (10, .q), (5, .g), (11, .g), (12, .q), (13, .q)] (by kernel_rfl) (by kernel_rfl) ?_
            simp only [pick, List.filterMap_cons, List.filterMap_nil, List.getElem?_toArray, List.getElem?_cons_zero, List.getElem?_cons_succ, Option.map_some]
            repeat (first
              | ((with_reducible refine wpD_p (fun K hK => ?_)); go_simp; refine hK _ ?_; clear hK K)
              | ((with_reducible refine wpD_q (fun K hK => ?_)); go_simp; (first | refine hK _ ?_ | (go_bits; refine hK _ ?_) | (go_bits; go_simp; refine hK _ ?_)); clear hK K)
              | ((with_reducible refine wpD_g (fun K hK => ?_)); go_simp; refine hK _ _ ?_; clear hK K)
              | ((with_reducible refine wpD_g (fun K hK => ?_)); go_simp; refine ⟨Grew.of_alloc _, hK _ _ ?_⟩; clear hK K)
              | ((with_reducible refine wpD_g (fun K hK => ?_)); go_simp; go_at_call 149; refine (first_any _ _ _ _ _ (hFo.out.below (by exact bel_)) (by omega)).mono ?_; rintro e _ ⟨rfl, rfl⟩; refine ⟨_, rfl, Below.refl _ _, hK _ _ ?_⟩; clear hK K))
            with_reducible refine wpD_nil ?_
            go_wp2
            refine wp_region_ord [(0, .q), (1, .q), (2, .q), (3, .q), (4, .q), (5, .q), (6, .q), (7, .q), (8, .q), (9, .q)] (by kernel_rfl) (by kernel_rfl) ?_
            simp only [pick, List.filterMap_cons, List.filterMap_nil, List.getElem?_toArray, List.getElem?_cons_zero, List.getElem?_cons_succ, Option.map_some]
            repeat (first | ((with_reducible refine wpD_p (fun K hK => ?_)); go_simp; refine hK _ ?_; clear hK K) | ((with_reducible refine wpD_q (fun K hK => ?_)); go_simp; (first | refine hK _ ?_ | (go_bits; refine hK _ ?_) | (go_bits; go_simp; refine hK _ ?_)); clear hK K))
            with_reducible refine wpD_nil ?_
            go_wp2
            go_roundg (m - (j + 1))
            case measure => omega
            case rel =>
              refine ⟨j + 1, by omega, by go_num, Lib.hid ?_, ?_, Lib.hid ?_, Lib.hid ?_⟩
              · exact (((hbw.out.setCell (p := ⟨Bg + lb, 0, none⟩) (by simp; omega) _).alloc (by simp; omega) _).drew).drew
              · simp; omega
              · exact ((hrowK.out.setOther (a := ⟨Bg + lb, 0, none⟩) (by simp; omega) _).alloc _).drew.drew
              · rw [hlab.out, relab_lt (by omega), hlaE, hlbE]
                exact (hFo.out.led hLab.out (x := la) (y := lb) (by rw [← hlaE]; exact hiaH.out) (by rw [← hlbE]; exact hibH.out) hlt (by omega)).below (by exact bel_)
          · subst heq
            go_wp2
            refine wp_region_ord [(0, .q), (1, .q), (2, .q), (3, .q), (4, .q), (6, .q), (7, .q), (8, .q), (9, .q), (10, .q), (5, .g), (11, .g), (12, .q), (13, .q)] (by kernel_rfl) (by kernel_rfl) ?_
            simp only [pick, List.filterMap_cons, List.filterMap_nil, List.getElem?_toArray, List.getElem?_cons_zero, List.getElem?_cons_succ, Option.map_some]
            repeat (first
              | ((with_reducible refine wpD_p (fun K hK => ?_)); go_simp; refine hK _ ?_; clear hK K)
              | ((with_reducible refine wpD_q (fun K hK => ?_)); go_simp; (first | refine hK _ ?_ | (go_bits; refine hK _ ?_) | (go_bits; go_simp; refine hK _ ?_)); clear hK K)
              | ((with_reducible refine wpD_g (fun K hK => ?_)); go_simp; refine hK _ _ ?_; clear hK K)
              | ((with_reducible refine wpD_g (fun K hK => ?_)); go_simp; refine ⟨Grew.of_alloc _, hK _ _ ?_⟩; clear hK K)
              | ((with_reducible refine wpD_g (fun K hK => ?_)); go_simp; go_at_call 149; refine (first_any _ _ _ _ _ (hFo.out.below (by exact bel_)) (by omega)).mono ?_; rintro e _ ⟨rfl, rfl⟩; refine ⟨_, rfl, Below.refl _ _, hK _ _ ?_⟩; clear hK K))
            with_reducible refine wpD_nil ?_
            go_wp2
            refine wp_region_ord [(0, .q), (1, .q), (2, .q), (3, .q), (4, .q), (5, .q), (6, .q), (7, .q), (8, .q), (9, .q)] (by kernel_rfl) (by kernel_rfl) ?_
            simp only [pick, List.filterMap_cons, List.filterMap_nil, List.getElem?_toArray, List.getElem?_cons_zero, List.getElem?_cons_succ, Option.map_some]
            repeat (first | ((with_reducible refine wpD_p (fun K hK => ?_)); go_simp; refine hK _ ?_; clear hK K) | ((with_reducible refine wpD_q (fun K hK => ?_)); go_simp; (first | refine hK _ ?_ | (go_bits; refine hK _ ?_) | (go_bits; go_simp; refine hK _ ?_)); clear hK K))
            with_reducible refine wpD_nil ?_
            go_wp2
            refine wp_region_ord [(0, .q), (1, .q), (2, .q), (3, .q), (4, .q), (5, .q), (6, .q), (7, .q), (8, .q), (9, .q)] (by kernel_rfl) (by kernel_rfl) ?_
            simp only [pick, List.filterMap_cons, List.filterMap_nil, List.getElem?_toArray, List.getElem?_cons_zero, List.getElem?_cons_succ, Option.map_some]
            repeat (first | ((with_reducible refine wpD_p (fun K hK => ?_)); go_simp; refine hK _ ?_; clear hK K) | ((with_reducible refine wpD_q (fun K hK => ?_)); go_simp; (first | refine hK _ ?_ | (go_bits; refine hK _ ?_) | (go_bits; go_simp; refine hK _ ?_)); clear hK K))
            with_reducible refine wpD_nil ?_
            go_wp2
            go_roundg (m - (j + 1))
            case measure => omega
            case rel =>
              refine ⟨j + 1, by omega, by go_num, Lib.hid ?_, ?_, Lib.hid ?_, Lib.hid ?_⟩
              · exact ((hbw.out.alloc (by omega) _).drew).drew.drew
              · simp; omega
              · exact (hrowK.out.alloc _).drew.drew.drew
              · rw [hlab.out, relab_eq (by omega)]
                exact hFo.out.below (by exact bel_)
          · go_wp2
            refine wp_region_ord [(0, .q), (1, .q), (2, .q), (3, .q), (4, .q), (6, .q), (7, .q), (8, .q), (9, .q), (10, .q), (5, .g), (11, .g), (12, .q), (13, .q)] (by kernel_rfl) (by kernel_rfl) ?_
            simp only [pick, List.filterMap_cons, List.filterMap_nil, List.getElem?_toArray, List.getElem?_cons_zero, List.getElem?_cons_succ, Option.map_some]
            repeat (first
              | ((with_reducible refine wpD_p (fun K hK => ?_)); go_simp; refine hK _ ?_; clear hK K)
              | ((with_reducible refine wpD_q (fun K hK => ?_)); go_simp; (first | refine hK _ ?_ | (go_bits; refine hK _ ?_) | (go_bits; go_simp; refine hK _ ?_)); clear hK K)
              | ((with_reducible refine wpD_g (fun K hK => ?_)); go_simp; refine hK _ _ ?_; clear hK K)
              | ((with_reducible refine wpD_g (fun K hK => ?_)); go_simp; refine ⟨Grew.of_alloc _, hK _ _ ?_⟩; clear hK K)
              | ((with_reducible refine wpD_g (fun K hK => ?_)); go_simp; go_at_call 149; refine (first_any _ _ _ _ _ (hFo.out.below (by exact bel_)) (by omega)).mono ?_; rintro e _ ⟨rfl, rfl⟩; refine ⟨_, rfl, Below.refl _ _, hK _ _ ?_⟩; clear hK K))
            with_reducible refine wpD_nil ?_
            go_wp2
            refine wp_region_ord [(0, .q), (1, .q), (2, .q), (3, .q), (4, .q), (5, .q), (6, .q), (7, .q), (8, .q), (9, .q)] (by kernel_rfl) (by kernel_rfl) ?_
            simp only [pick, List.filterMap_cons, List.filterMap_nil, List.getElem?_toArray, List.getElem?_cons_zero, List.getElem?_cons_succ, Option.map_some]
            repeat (first | ((with_reducible refine wpD_p (fun K hK => ?_)); go_simp; refine hK _ ?_; clear hK K) | ((with_reducible refine wpD_q (fun K hK => ?_)); go_simp; (first | refine hK _ ?_ | (go_bits; refine hK _ ?_) | (go_bits; go_simp; refine hK _ ?_)); clear hK K))
            with_reducible refine wpD_nil ?_
            have hgt' : ¬ la < lb := by omega
            go_wp2
            refine wp_region_ord [(0, .q), (1, .q), (2, .q), (3, .q), (4, .q), (5, .q), (6, .q), (7, .q), (8, .q), (9, .q)] (by kernel_rfl) (by kernel_rfl) ?_
            simp only [pick, List.filterMap_cons, List.filterMap_nil, List.getElem?_toArray, List.getElem?_cons_zero, List.getElem?_cons_succ, Option.map_some]
            repeat (first | ((with_reducible refine wpD_p (fun K hK => ?_)); go_simp; refine hK _ ?_; clear hK K) | ((with_reducible refine wpD_q (fun K hK => ?_)); go_simp; (first | refine hK _ ?_ | (go_bits; refine hK _ ?_) | (go_bits; go_simp; refine hK _ ?_)); clear hK K))
            with_reducible refine wpD_nil ?_
            go_wp2
            go_roundg (m - (j + 1))
            case measure => omega
            case rel =>
              refine ⟨j + 1, by omega, by go_num, Lib.hid ?_, ?_, Lib.hid ?_, Lib.hid ?_⟩
              · exact (((hbw.out.setCell (p := ⟨Bg + la, 0, none⟩) (by simp; omega) _).alloc (by simp; omega) _).drew).drew.drew
              · simp; omega
              · exact ((hrowK.out.setOther (a := ⟨Bg + la, 0, none⟩) (by simp; omega) _).alloc _).drew.drew.drew
              · rw [hlab.out, relab_gt (by omega), hlaE, hlbE]
                exact (hFo.out.led hLab.out (x := lb) (y := la) (by rw [← hlbE]; exact hibH.out) (by rw [← hlaE]; exact hiaH.out) hgt (by omega)).below (by exact bel_)
        · obtain rfl : j = m := by omega
          obtain ⟨f, hf⟩ : ∃ f, labOf bs j = f := ⟨_, rfl⟩
          have hLab := Lib.hid (Lab.of bs j)
          rw [hf] at hFo hLab
          have hfH := Lib.hid hf
          clear hf
          obtain ⟨wb, rfl⟩ : ∃ wb : World, wb = wr := ⟨_, rfl⟩
          have hwb : w.heap.size < wb.heap.size := by omega
          go_wp2
          go_loopg [81, 11] k (fun g i v wr => ∃ (t : Nat) (us : List Value), t + g = k ∧ i = .int .i64 (t : Int) ∧ Hid (Own2 wr (wb.heap.size + 1) 58 2 1 v us ((groupsL f t).map intsN)) ∧ Hid (∃ c, c ≤ t ∧ IMap wr wb.heap.size c (placeM f t)) ∧ Hid (Below wb.heap.size wb wr) ∧ wb.heap.size < wr.heap.size)
          case atStart => exact ⟨0, [], by omega, rfl, Lib.hid (Own2.nil _ _ _ _ _), Lib.hid ⟨0, Nat.le_refl _, by rw [placeM_zero]; exact IMap.made wb⟩, Lib.hid (bl_al (bl_refl _) _), by simp⟩
          case round =>
            obtain ⟨t, us, ht, rfl, hO, hM, hbq, hszq⟩ := hrel
            by_cases htk : t < k
            · have ra := (hbq.out.cell (p := ⟨w.heap.size, t, none⟩) hwb).trans (hrowK.out.cell (i := t) htk)
              have hl0 : w.heap.size < wr.heap.size := by omega
              have hle := hLab.out.le t
              have hid := Lib.hid (hLab.out.idem t)
              have hFq := Lib.hid (hFo.out.below hbq.out)
              obtain ⟨r, hr⟩ : ∃ r, f t = r := ⟨_, rfl⟩
              have hul : us.length = (rootsL f t).length := by rw [hO.out.len]; simp [groupsL]
              have hrl := rootsL_len f t
              have hulH := Lib.hid hul
              obtain ⟨A0, cap0, rfl⟩ := hO.out.form hul
              rw [hr] at hle
              obtain ⟨a1, a2, a3, _⟩ := hFq.out r (by omega)
              have hrH := Lib.hid hr
              obtain ⟨c0, hc0, hM0⟩ := hM.out
              have hM0 := Lib.hid hM0
              clear hul hM
              by_cases hrt : r = t
              · subst hrt
                have hno := Lib.hid (placeM_no (f := f) (m := r))
                have hns : (placeM f r r).isSome = false := by rw [hno.out]; rfl
                obtain ⟨p, hp⟩ : ∃ p, (rootsL f r).length = p := ⟨_, rfl⟩
                rw [hp] at hrl hO hulH ⊢
                have hpH := Lib.hid hp
                clear hp
                go_wp2_with (first
                  | (go_at_call 149; refine (first_any Bg k r f wr hFq.out htk).mono ?_; rintro e _ ⟨rfl, rfl⟩)
                  | (at_lookup; refine wpList_look_imap _ rfl _ _ rfl wb.heap.size c0 _ rfl hM0.out r (by omega) rfl ?_; intro c hc)
                  | (at_mapUpdate; refine wpList_put_imap _ rfl _ _ _ rfl wb.heap.size c0 _ rfl hM0.out r p (by omega) (by omega) (by unfold maxLen; omega) rfl rfl ?_; intro w1 hM1 hg1; have hM1H := Lib.hid hM1; have hO1 := Lib.hid (hO.out.keptBelow hg1 (by intro g e; injection e with e; omega)); have hs1 : wb.heap.size < w1.heap.size := Nat.lt_of_lt_of_le hszq hg1.size; clear hM1)
                  | (at_builtin; refine wpList_append_own_at _ rfl _ _ 186 rfl (wb.heap.size + 1) 58 i0 (.slice none 0 0) 1 24 Tryz.underlying186 hi hz0 hz1 hz2 rfl (by decide) _ p us rfl ((hO1.out.outerN hulH.out).alloc _) ⟨w1.heap.size, 0, none⟩ 1 1 [.slice none 0 0] rfl rfl (cell_one_new _ _ _) (fun x hx => by simp at hx; subst hx; rfl) (by unfold maxLen; omega) (by omega) (by simp; omega) ?_; intro v2 w2 hown2 hgrow2 _ hat2; have hO2 := (hO1.out.alloc _).push hulH.out (x := .slice none 0 0) (r := []) (n := 0) (World.ownsRow_nil _ _ _ _) (fun g e => by simp [Value.ownBlock] at e) hown2 hgrow2 hat2; have hN2 := Lib.hid (show (us ++ [Value.slice none 0 0]).length = p + 1 by simp [hulH.out]); have hu2 := Lib.hid (show (us ++ [Value.slice none 0 0])[p]? = some (.slice none 0 0) by rw [← hulH.out]; simp); obtain ⟨g2, cap2, rfl⟩ := hO2.formPos hN2.out (by omega); obtain ⟨q1, q2, q3⟩ := hO2.cellAt hN2.out hu2.out; have hO2 := Lib.hid hO2; have hbA := Lib.hid (below_app (B0 := wb.heap.size + 1) hs1 (fun g e => (hO1.out.lt g e).1) hgrow2); clear hown2 hgrow2 hat2)
                  | (at_builtin; refine wpList_append_own_at _ rfl _ _ 58 rfl (wb.heap.size + 1) 2 i1 (.int .i64 0) 1 8 Tryz.underlying58 hi' hz0' hz1' hz2' rfl (by decide) _ 0 [] rfl (World.ownsRow_nil _ _ _ _) ⟨w2.heap.size, 0, none⟩ 1 1 [.int .i64 (r : Int)] rfl rfl (cell_one_new _ _ _) (fun x hx => by simp at hx; subst hx; rfl) (by unfold maxLen; omega) (by omega) (by simp; have := hbA.out.size; omega) ?_; intro u3 w3 hown3 hgrow3 _ hat3; obtain ⟨g3, cap3, rfl⟩ := ownsRow_succ hown3; obtain ⟨z1, z2, z3, z4⟩ := (hO2.out.alloc _).after hN2.out hu2.out hgrow3; have hown3H := Lib.hid hown3; have hgrow3H := Lib.hid hgrow3; have hat3H := Lib.hid hat3; clear hown3 hgrow3 hat3))
                have hb3 := Lib.hid (below_app (B0 := wb.heap.size + 1) (W := w2) (row := none) (by have := hbA.out.size; omega) (fun g e => by cases e) hgrow3H.out)
                have hb1 := Lib.hid ((Below.refl wb.heap.size wr).grown hg1 (by omega) (fun g e => by injection e with e; omega))
                go_roundg (k - (r + 1))
                case measure => omega
                case rel =>
                  have hbF : Below (wb.heap.size + 1) w1 (w3.setCell ⟨g2, p, none⟩ (.slice (some ⟨g3, 0, none⟩) (0 + 1) cap3)) := (hbA.out.trans hb3.out).setCell (p := ⟨g2, p, none⟩) z4 _
                  refine ⟨r + 1, (us ++ [Value.slice none 0 0]).set p (.slice (some ⟨g3, 0, none⟩) (0 + 1) cap3), by omega, by go_num, Lib.hid ?_, Lib.hid ⟨c0 + 1, by omega, ?_⟩, Lib.hid ?_, ?_⟩
                  · have hF := (hO2.out.alloc _).grow hN2.out hu2.out hown3H.out hgrow3H.out hat3H.out
                    have hrw : ((groupsL f r).map intsN ++ [[]]).set p ([] ++ [Value.int .i64 (r : Int)]) = (groupsL f (r + 1)).map intsN := by
                      rw [groupsL_new hLab.out.le hrH.out, List.map_append, ← hpH.out, List.set_append_right _ _ (by simp [groupsL])]
                      simp [groupsL, intsN]
                    rw [hrw] at hF
                    exact hF
                  · rw [placeM_new hrH.out, hpH.out]
                    exact hM1H.out.block (hbF.block _ (by omega))
                  · exact hbq.out.trans (hb1.out.trans (hbF.mono (by omega)))
                  · exact Nat.lt_of_lt_of_le hs1 hbF.size
              · have hlt : r < t := by omega
                have hne : f t ≠ t := by rw [hrH.out]; exact hrt
                have hneH := Lib.hid hne
                have hidr : f r = r := by
                  have := hid.out
                  rw [hrH.out] at this
                  exact this
                obtain ⟨p, hp⟩ : ∃ p, (rootsL f r).length = p := ⟨_, rfl⟩
                have hpl := rootsL_lt hlt hidr
                have hgt := rootsL_at hlt hidr
                obtain ⟨N0, hN0⟩ : ∃ N0, (rootsL f t).length = N0 := ⟨_, rfl⟩
                rw [hN0] at hO hulH hrl hpl ⊢
                rw [hp] at hpl hgt
                obtain ⟨g2, cap2, hv⟩ := hO.out.formPos hulH.out (by omega)
                injection hv with hv1 hv2 hv3
                subst hv1 hv3
                clear hN0 hv2
                have hyes := Lib.hid (placeM_yes hlt hidr)
                have hys : (placeM f t r).isSome = true := by rw [hyes.out]; rfl
                have hpH := Lib.hid hp
                have hidrH := Lib.hid hidr
                obtain ⟨u, hu⟩ : ∃ u, us[p]? = some u := ⟨_, List.getElem?_eq_getElem (by rw [hulH.out]; exact hpl)⟩
                obtain ⟨n', r', hr', hown0⟩ := hO.out.get hu
                rw [List.getElem?_map, groupsL_get, hgt] at hr'
                simp only [Option.map_some, Option.some.injEq] at hr'
                subst hr'
                obtain ⟨A1, cap1, rfl⟩ := ownsRow_form hown0
                have huH := Lib.hid hu
                have hownH := Lib.hid hown0
                have hl' := hown0.1
                rw [intsN_len, Nat.mul_one] at hl'
                have hll : n' ≤ t := by
                  rw [← hl']
                  have := List.length_filter_le (fun k => f k == r) (List.range t)
                  simpa [partL] using this
                have hO2 := hO
                obtain ⟨q1, q2, q3⟩ := hO2.out.cellAt hulH.out hu
                clear hp hidr hu hown0 hl' hO hgt
                go_wp2_with (first
                  | (go_at_call 149; refine (first_any Bg k t f wr hFq.out htk).mono ?_; rintro e _ ⟨rfl, rfl⟩)
                  | (at_lookup; refine wpList_look_imap _ rfl _ _ rfl wb.heap.size c0 _ rfl hM0.out r (by omega) rfl ?_; intro c hc; obtain rfl := hc p (by rw [hyes.out, hpH.out]))
                  | (at_builtin; refine wpList_append_own_at _ rfl _ _ 58 rfl (wb.heap.size + 1) 2 i1 (.int .i64 0) 1 8 Tryz.underlying58 hi' hz0' hz1' hz2' rfl (by decide) _ n' (intsN (partL f t r)) rfl (hownH.out.alloc _) ⟨wr.heap.size, 0, none⟩ 1 1 [.int .i64 (t : Int)] rfl rfl (cell_one_new _ _ _) (fun x hx => by simp at hx; subst hx; rfl) (by unfold maxLen; omega) (by omega) (by simp; omega) ?_; intro u3 w3 hown3 hgrow3 _ hat3; obtain ⟨g3, cap3, rfl⟩ := ownsRow_succ hown3; obtain ⟨z1, z2, z3, z4⟩ := (hO2.out.alloc _).after hulH.out huH.out hgrow3; have hown3H := Lib.hid hown3; have hgrow3H := Lib.hid hgrow3; have hat3H := Lib.hid hat3; clear hown3 hgrow3 hat3))
                have hb3 := Lib.hid (below_app (B0 := wb.heap.size + 1) (W := wr) (by omega) (fun g e => (hownH.out.lt g e).1) hgrow3H.out)
                go_roundg (k - (t + 1))
                case measure => omega
                case rel =>
                  have hbF : Below (wb.heap.size + 1) wr (w3.setCell ⟨g2, p, none⟩ (.slice (some ⟨g3, 0, none⟩) (n' + 1) cap3)) := hb3.out.setCell (p := ⟨g2, p, none⟩) z4 _
                  refine ⟨t + 1, us.set p (.slice (some ⟨g3, 0, none⟩) (n' + 1) cap3), by omega, by go_num, Lib.hid ?_, Lib.hid ⟨c0, by omega, ?_⟩, Lib.hid ?_, ?_⟩
                  · have hF := (hO2.out.alloc _).grow hulH.out huH.out hown3H.out hgrow3H.out hat3H.out
                    have hrw : ((groupsL f t).map intsN).set p (intsN (partL f t r) ++ [Value.int .i64 (t : Int)]) = (groupsL f (t + 1)).map intsN := by
                      rw [groupsL_old hneH.out (by rw [hrH.out]; exact hlt) (by rw [hrH.out]; exact hidrH.out), hrH.out, hpH.out, List.map_set]
                      simp [intsN]
                    rw [hrw] at hF
                    exact hF
                  · rw [placeM_old hneH.out]
                    exact hM0.out.block (hbF.block _ (by omega))
                  · exact hbq.out.trans (hbF.mono (by omega))
                  · exact Nat.lt_of_lt_of_le hszq hbF.size
            · obtain rfl : t = k := by omega
              obtain ⟨A0, cap0, rfl⟩ := hO.out.form rfl
              go_wp2
              go_ret
              refine ⟨_, us, rfl, ?_, ?_⟩
              · rw [hfH.out]
                exact hO.out.rebase (by omega)
              · exact hbw.out.trans (hbq.out.mono (by omega))
end Go.Proofs.YtmpmokefgdjnkaaGreat
/- Walks: the reference's groups by bonds. -/

namespace Go.Proofs.YtmpmokefgdjnkaaGreat
open Go.RowKit Go.Shelf
attribute [local go_sem] BelowBy.cell BelowBy.cell_drew stillUpon givesUpon BelowBy.cell_drew2 BelowBy.cell_drew3

theorem l00Max_any (a b : Int) (w : World) : Calls Tryz.prog 71 #[.int .i64 a, .int .i64 b] w fun e w' => e = .returned (.int .i64 (max a b)) ∧ w = w' := by
  go_enter Tryz.func71, Tryz.ntmps71
  go_wp2
  · rename_i h
    go_ret
    exact ⟨ret_int (by omega), rfl⟩
  · go_ret
    exact ⟨ret_int (by omega), rfl⟩
theorem l00Min_any (a b : Int) (w : World) : Calls Tryz.prog 70 #[.int .i64 a, .int .i64 b] w fun e w' => e = .returned (.int .i64 (min a b)) ∧ w = w' := by
  go_enter Tryz.func70, Tryz.ntmps70
  go_wp2
  · go_ret
    exact ⟨ret_int (by omega), rfl⟩
  · go_ret
    exact ⟨ret_int (by omega), rfl⟩
theorem l00Max_at (a b m : Nat) (w : World) (h : max a b = m) : Calls Tryz.prog 71 #[.int .i64 (a : Int), .int .i64 (b : Int)] w fun e w' => e = .returned (.int .i64 (m : Int)) ∧ w = w' := by
  have := l00Max_any a b w
  rwa [show max (a : Int) (b : Int) = (m : Int) by omega] at this
theorem l00Min_at (a b m : Nat) (w : World) (h : min a b = m) : Calls Tryz.prog 70 #[.int .i64 (a : Int), .int .i64 (b : Int)] w fun e w' => e = .returned (.int .i64 (m : Int)) ∧ w = w' := by
  have := l00Min_any a b w
  rwa [show min (a : Int) (b : Int) = (m : Int) by omega] at this
theorem intsN_snoc (l : List Nat) (x : Nat) : intsN l ++ [Value.int .i64 (x : Int)] = intsN (l ++ [x]) := by simp [intsN]
theorem intsN_get {l : List Nat} {k x : Nat} (h : l[k]? = some x) : (intsN l)[k]? = some (.int .i64 (x : Int)) := by simp [intsN, h]
theorem intsN_set (l : List Nat) (k x : Nat) : (intsN l).set k (.int .i64 (x : Int)) = intsN (l.set k x) := by simp [intsN, List.map_set]
/-- labels as a row -/
def labsL (f : Nat → Nat) (n : Nat) : List Nat := (List.range n).map f
theorem labsL_len (f : Nat → Nat) (n : Nat) : (labsL f n).length = n := by simp [labsL]
theorem labsL_get {f : Nat → Nat} {n k : Nat} (h : k < n) : (labsL f n)[k]? = some (f k) := by simp [labsL, h]
theorem labsL_set (f : Nat → Nat) (n k x : Nat) : (labsL f n).set k x = labsL (fun j => if j = k then x else f j) n := by
  apply List.ext_getElem?
  intro j
  rw [List.getElem?_set, labsL_len]
  by_cases e : k = j
  · subst e
    by_cases hk : k < n
    · rw [if_pos rfl, if_pos hk, labsL_get hk, if_pos rfl]
    · rw [if_pos rfl, if_neg hk, List.getElem?_eq_none (by rw [labsL_len]; omega)]
  · rw [if_neg e]
    by_cases hj : j < n
    · rw [labsL_get hj, labsL_get hj, if_neg (fun h => e h.symm)]
    · rw [List.getElem?_eq_none (by rw [labsL_len]; omega), List.getElem?_eq_none (by rw [labsL_len]; omega)]
theorem labsL_id_snoc (k : Nat) : labsL (fun j => j) k ++ [k] = labsL (fun j => j) (k + 1) := by simp [labsL, List.range_succ]
/-- half of a round's relabelling -/
def relabTo (f : Nat → Nat) (a b t : Nat) : Nat → Nat := fun j => if j < t then relab f a b j else f j
theorem relabTo_zero (f : Nat → Nat) (a b : Nat) : relabTo f a b 0 = f := by funext j; simp [relabTo]
theorem relabTo_hit {f : Nat → Nat} {a b t : Nat} (h : f t = max (f a) (f b)) : relabTo f a b (t + 1) = fun j => if j = t then min (f a) (f b) else relabTo f a b t j := by
  funext j
  unfold relabTo relab
  by_cases e : j = t
  · subst e; simp [h]
  · by_cases hj : j < t
    · simp [e, hj, Nat.lt_succ_of_lt hj]
    · have : ¬ j < t + 1 := by omega
      simp [e, hj, this]
theorem relabTo_miss {f : Nat → Nat} {a b t : Nat} (h : f t ≠ max (f a) (f b)) : relabTo f a b (t + 1) = relabTo f a b t := by
  funext j
  unfold relabTo relab
  by_cases e : j = t
  · subst e; simp [h]
  · by_cases hj : j < t
    · simp [hj, Nat.lt_succ_of_lt hj]
    · have : ¬ j < t + 1 := by omega
      simp [hj, this]
theorem labsL_all (f : Nat → Nat) (a b n : Nat) : labsL (relabTo f a b n) n = labsL (relab f a b) n := by
  unfold labsL
  apply List.map_congr_left
  intro j hj
  simp at hj
  simp [relabTo, hj]
set_option maxRecDepth 100000 in
set_option maxHeartbeats 2000000 in
theorem l06Groups_any (n : Nat) (B : Option Addr) (m c : Nat) (bs : List Bd) (w : World) (hB : RdSl 3 RBd w B m bs) (hn : n ≤ 100000) (hm : m ≤ 1000000) (hbs : ∀ (k : Nat) (e : Bd), bs[k]? = some e → e.a < n ∧ e.b < n) :
    Calls Tryz.prog 131 #[.int .i64 (n : Int), .slice B m c] w (OwnGr w (groupsL (labOf bs m) n)) := by
  obtain ⟨i0, hi, hz0, hz1, hz2⟩ := info_parts infoGs
  obtain ⟨i1, hi', hz0', hz1', hz2'⟩ := info_parts infoI
  have hBH := Lib.hid hB
  have hbsH := Lib.hid hbs
  clear hB hbs
  go_enter Tryz.func131, Tryz.ntmps131
  go_wp2
  go_loopg [6, 5] n (fun g i v wr => ∃ (k : Nat), k + g = n ∧ i = .int .i64 (k : Int) ∧ Hid (wr.ownsRow w.heap.size 2 1 v k (intsN (labsL (fun j => j) k))) ∧ Hid (Below w.heap.size w wr))
  case atStart => exact ⟨0, by omega, rfl, Lib.hid (World.ownsRow_made _ _ _ (Nat.le_refl _) (by decide) rfl), Lib.hid (bl_al (bl_refl _) _)⟩
  case round =>
    obtain ⟨k, hk, rfl, hrow, hbw⟩ := hrel
    have hszl := hbw.out.size
    obtain ⟨A0, c0, rfl⟩ := ownsRow_form hrow.out
    by_cases hkn : k < n
    · go_wp2_with (at_builtin; refine wpList_append_own _ rfl _ _ 58 rfl w.heap.size 2 i1 (.int .i64 0) 1 8 Tryz.underlying58 hi' hz0' hz1' hz2' rfl (by decide) _ k (intsN (labsL (fun j => j) k)) rfl (hrow.out.alloc _) ⟨wr.heap.size, 0, none⟩ 1 1 [.int .i64 (k : Int)] rfl rfl (cell_one_new _ _ _) (fun x hx => by simp at hx; subst hx; rfl) (by unfold maxLen; omega) (by omega) (by simp; omega) ?_; intro u3 w3 hown3 hgrow3 _; have hown3H := Lib.hid hown3; have hgrow3H := Lib.hid hgrow3; clear hown3 hgrow3)
      go_roundg (n - (k + 1))
      case measure => omega
      case rel =>
        refine ⟨k + 1, by omega, by go_num, Lib.hid ?_, Lib.hid ?_⟩
        · rw [← labsL_id_snoc, ← intsN_snoc]
          exact hown3H.out
        · exact hbw.out.trans (below_app hszl (fun g e => (hrow.out.lt g e).1) hgrow3H.out)
    · obtain rfl : k = n := by omega
      obtain ⟨wa, rfl⟩ : ∃ wa : World, wa = wr := ⟨_, rfl⟩
      go_wp2
      go_loopg [7] m (fun g i wr => ∃ (j : Nat), j + g = m ∧ i = .int .i64 (j : Int) ∧ Hid (Below w.heap.size w wr) ∧ Hid (wr.ownsRow w.heap.size 2 1 (.slice A0 k c0) k (intsN (labsL (labOf bs j) k))))
      case atStart => exact ⟨0, by omega, rfl, hbw, hrow⟩
      case round =>
        clear hbw hszl hrow
        obtain ⟨j, hj, rfl, hbw, hrow⟩ := hrel
        have hszl := hbw.out.size
        by_cases hjm : j < m
        · have hBw := hBH.out.below RBd.stable hbw.out
          obtain ⟨bb, ob, rfl, hbb, hbc⟩ := hBw.ptr (by omega)
          obtain ⟨e, he⟩ := hBw.get hjm
          obtain ⟨e0, e1, e2⟩ := hbc j e he
          obtain ⟨hea, heb⟩ := hbsH.out j e he
          have hlab := Lib.hid (labOf_succ he)
          have hbb0 : bb < w.heap.size := by
            obtain ⟨b', o', e', hb', _⟩ := hBH.out.ptr (by omega)
            injection e' with e'
            injection e' with e'
            omega
          obtain ⟨f, hf⟩ : ∃ f, labOf bs j = f := ⟨_, rfl⟩
          rw [hf] at hrow hlab
          obtain ⟨g0, cap0, hv⟩ : ∃ g0 cap0, Value.slice A0 k c0 = .slice (some ⟨g0, 0, none⟩) k cap0 := by
            rcases hrow.out.2 with ⟨_, h0⟩ | ⟨g, cap, cur, hv, _⟩
            · omega
            · exact ⟨g, cap, hv⟩
          injection hv with hv1 hv2 hv3
          subst hv1 hv3
          have ra := (hrow.out.cellAt e.a (by omega)).trans (intsN_get (labsL_get hea))
          have rb := (hrow.out.cellAt e.b (by omega)).trans (intsN_get (labsL_get heb))
          have hg0 := hrow.out.lt g0 rfl
          obtain ⟨hg1, hg2⟩ := hg0
          have hfH := Lib.hid hf
          clear hbc he hBw hf hv2
          obtain ⟨la, hlaE⟩ : ∃ la, f e.a = la := ⟨_, rfl⟩
          obtain ⟨lb, hlbE⟩ : ∃ lb, f e.b = lb := ⟨_, rfl⟩
          rw [hlaE] at ra
          rw [hlbE] at rb
          have hlaH := Lib.hid hlaE
          have hlbH := Lib.hid hlbE
          clear hlaE hlbE
          obtain ⟨wo, rfl⟩ : ∃ wo : World, wo = wr := ⟨_, rfl⟩
          go_wp2
          go_loopg [10] k (fun g i wr => ∃ (t : Nat), t + g = k ∧ i = .int .i64 (t : Int) ∧ Hid (Below w.heap.size w wr) ∧ Hid (wr.ownsRow w.heap.size 2 1 (.slice (some ⟨g0, 0, none⟩) k c0) k (intsN (labsL (relabTo f e.a e.b t) k))))
          case atStart => exact ⟨0, by omega, rfl, hbw, Lib.hid (by rw [relabTo_zero]; exact hrow.out)⟩
          case round =>
            clear hbw hszl hrow ra rb e0 e1 e2 hg2
            obtain ⟨t, ht, rfl, hbw, hrow⟩ := hrel
            have hszl := hbw.out.size
            by_cases htk : t < k
            · have hft : relabTo f e.a e.b t t = f t := by simp [relabTo]
              have rt := (hrow.out.cellAt t (by omega)).trans (intsN_get (labsL_get htk))
              rw [hft] at rt
              have hg2 := (hrow.out.lt g0 rfl).2
              have fz := hrow.out.frozenAt t
              obtain ⟨mx, hmx⟩ : ∃ mx, max la lb = mx := ⟨_, rfl⟩
              obtain ⟨mn, hmn⟩ : ∃ mn, min la lb = mn := ⟨_, rfl⟩
              have hmxH := Lib.hid hmx
              have hmnH := Lib.hid hmn
              obtain ⟨lt, hlt⟩ : ∃ lt, f t = lt := ⟨_, rfl⟩
              rw [hlt] at rt
              have hltH := Lib.hid hlt
              clear hft hmx hmn hlt
              by_cases hq : lt = mx
              · subst hq
                go_wp2
                refine wp_region_ord [(0, .q), (1, .q), (2, .q), (3, .q), (4, .q), (5, .q), (6, .g), (7, .q)] (by kernel_rfl) (by kernel_rfl) ?_
                simp only [pick, List.filterMap_cons, List.filterMap_nil, List.getElem?_toArray, List.getElem?_cons_zero, List.getElem?_cons_succ, Option.map_some]
                repeat (first
                  | ((with_reducible refine wpD_p (fun K hK => ?_)); go_simp; refine hK _ ?_; clear hK K)
                  | ((with_reducible refine wpD_q (fun K hK => ?_)); go_simp; (first | refine hK _ ?_ | (go_bits; refine hK _ ?_) | (go_bits; go_simp; refine hK _ ?_)); clear hK K)
                  | ((with_reducible refine wpD_g (fun K hK => ?_)); go_simp; refine hK _ _ ?_; clear hK K)
                  | ((with_reducible refine wpD_g (fun K hK => ?_)); go_simp; refine ⟨Grew.of_alloc _, hK _ _ ?_⟩; clear hK K)
                  | ((with_reducible refine wpD_g (fun K hK => ?_)); go_simp; go_at_call 71; refine (l00Max_at la lb _ _ hmxH.out).mono ?_; rintro e _ ⟨rfl, rfl⟩; refine ⟨_, rfl, Below.refl _ _, hK _ _ ?_⟩; clear hK K))
                with_reducible refine wpD_nil ?_
                go_wp2_with (go_at_call 70; refine (l00Min_at la lb _ _ hmnH.out).mono ?_; rintro e _ ⟨rfl, rfl⟩)
                go_roundg (k - (t + 1))
                case measure => omega
                case rel =>
                  refine ⟨t + 1, by omega, by go_num, Lib.hid ?_, Lib.hid ?_⟩
                  · exact (hbw.out.setCell (p := ⟨g0, t, none⟩) hg1 _).drew
                  · have hs := (hrow.out.stored t (.int .i64 (mn : Int))).1
                    rw [intsN_set, labsL_set, ← hmnH.out, ← hlaH.out, ← hlbH.out, ← relabTo_hit (by rw [hltH.out, hlaH.out, hlbH.out, hmxH.out])] at hs
                    rw [← hmnH.out, ← hlaH.out, ← hlbH.out]
                    exact hs
              · have hqd : ((lt : Int) == (mx : Int)) = false := by simp; omega
                go_wp2
                refine wp_region_ord [(0, .q), (1, .q), (2, .q), (3, .q), (4, .q), (5, .q), (6, .g), (7, .q)] (by kernel_rfl) (by kernel_rfl) ?_
                simp only [pick, List.filterMap_cons, List.filterMap_nil, List.getElem?_toArray, List.getElem?_cons_zero, List.getElem?_cons_succ, Option.map_some]
                repeat (first
                  | ((with_reducible refine wpD_p (fun K hK => ?_)); go_simp; refine hK _ ?_; clear hK K)
                  | ((with_reducible refine wpD_q (fun K hK => ?_)); go_simp; (first | refine hK _ ?_ | (go_bits; refine hK _ ?_) | (go_bits; go_simp; refine hK _ ?_)); clear hK K)
                  | ((with_reducible refine wpD_g (fun K hK => ?_)); go_simp; refine hK _ _ ?_; clear hK K)
                  | ((with_reducible refine wpD_g (fun K hK => ?_)); go_simp; refine ⟨Grew.of_alloc _, hK _ _ ?_⟩; clear hK K)
                  | ((with_reducible refine wpD_g (fun K hK => ?_)); go_simp; go_at_call 71; refine (l00Max_at la lb _ _ hmxH.out).mono ?_; rintro e _ ⟨rfl, rfl⟩; refine ⟨_, rfl, Below.refl _ _, hK _ _ ?_⟩; clear hK K))
                with_reducible refine wpD_nil ?_
                go_wp2
                go_roundg (k - (t + 1))
                case measure => omega
                case rel =>
                  refine ⟨t + 1, by omega, by go_num, Lib.hid ?_, Lib.hid ?_⟩
                  · exact hbw.out.drew
                  · rw [relabTo_miss (by rw [hltH.out, hlaH.out, hlbH.out, hmxH.out]; exact hq)]
                    exact hrow.out
            · obtain rfl : t = k := by omega
              go_wp2
              go_roundg (m - (j + 1))
              case measure => omega
              case rel => exact ⟨j + 1, by omega, by go_num, hbw, Lib.hid (by rw [hlab.out, ← labsL_all]; exact hrow.out)⟩
        · obtain rfl : j = m := by omega
          obtain ⟨f, hf⟩ : ∃ f, labOf bs j = f := ⟨_, rfl⟩
          have hLab := Lib.hid (Lab.of bs j)
          rw [hf] at hrow hLab
          have hfH := Lib.hid hf
          clear hf
          obtain ⟨wb, rfl⟩ : ∃ wb : World, wb = wr := ⟨_, rfl⟩
          go_wp2
          go_loopg [12, 11] k (fun g i v wr => ∃ (t : Nat) (us : List Value), t + g = k ∧ i = .int .i64 (t : Int) ∧ Hid (Own2 wr wb.heap.size 58 2 1 v us (((rootsL f t).map (partL f k)).map intsN)) ∧ Hid (Below wb.heap.size wb wr))
          case atStart => exact ⟨0, [], by omega, rfl, Lib.hid (Own2.of_empty (World.ownsRow_made _ _ _ (Nat.le_refl _) (by decide) rfl)), Lib.hid (bl_al (bl_refl _) _)⟩
          case round =>
            obtain ⟨t, us, ht, rfl, hO, hbq⟩ := hrel
            have hszq := hbq.out.size
            have hul : us.length = (rootsL f t).length := by rw [hO.out.len]; simp
            have hrl := rootsL_len f t
            obtain ⟨N0, hN0⟩ : ∃ N0, (rootsL f t).length = N0 := ⟨_, rfl⟩
            rw [hN0] at hul hrl
            have hulH := Lib.hid hul
            clear hul hN0
            obtain ⟨A1, c1, rfl⟩ := hO.out.form hulH.out
            by_cases htk : t < k
            · obtain ⟨g0, cap0, hv⟩ : ∃ g0 cap0, Value.slice A0 k c0 = .slice (some ⟨g0, 0, none⟩) k cap0 := by
                rcases hrow.out.2 with ⟨_, h0⟩ | ⟨g, cap, cur, hv, _⟩
                · omega
                · exact ⟨g, cap, hv⟩
              injection hv with hv1 hv2 hv3
              subst hv1 hv3
              clear hv2
              have hg0 := (hrow.out.lt g0 rfl).2
              have hnc := Lib.hid (fun (q : Nat) (hq : q < k) (W : World) (hW : Below wb.heap.size wb W) => (hW.cell (p := ⟨g0, q, none⟩) hg0).trans ((hrow.out.cellAt q (by omega)).trans (intsN_get (labsL_get hq))))
              have rt := hnc.out t htk wr hbq.out
              have hg1 : g0 < wr.heap.size := by omega
              obtain ⟨r, hr⟩ : ∃ r, f t = r := ⟨_, rfl⟩
              rw [hr] at rt
              have hrH := Lib.hid hr
              clear hr
              by_cases hrt : r = t
              · subst hrt
                obtain ⟨wo, rfl⟩ : ∃ wo : World, wo = wr := ⟨_, rfl⟩
                go_wp2
                go_loopg [14, 13] (k - r) (fun g i v wr => ∃ (q : Nat), r ≤ q ∧ q + g = k ∧ i = .int .i64 (q : Int) ∧ Hid (wr.ownsRow wo.heap.size 2 1 v (partL f q r).length (intsN (partL f q r))) ∧ Hid (Below wo.heap.size wo wr))
                case atStart => exact ⟨r, Nat.le_refl _, by omega, rfl, Lib.hid (by rw [partL_new hLab.out.le (Nat.le_refl _)]; exact World.ownsRow_made _ _ _ (Nat.le_refl _) (by decide) rfl), Lib.hid (bl_al (bl_refl _) _)⟩
                case round =>
                  clear rt hg1
                  obtain ⟨q, hq1, hq, rfl, hpr, hbp⟩ := hrel
                  have hszp := hbp.out.size
                  have hpl : (partL f q r).length ≤ q := by
                    have := List.length_filter_le (fun k => f k == r) (List.range q)
                    simpa [partL] using this
                  obtain ⟨np, hnp⟩ : ∃ np, (partL f q r).length = np := ⟨_, rfl⟩
                  rw [hnp] at hpr hpl
                  have hnpH := Lib.hid hnp
                  clear hnp
                  obtain ⟨A2, c2, rfl⟩ := ownsRow_form hpr.out
                  by_cases hqk : q < k
                  · have rq := hnc.out q hqk wr (hbq.out.trans (hbp.out.mono hszq))
                    have hg1 : g0 < wr.heap.size := by omega
                    obtain ⟨s, hs⟩ : ∃ s, f q = s := ⟨_, rfl⟩
                    rw [hs] at rq
                    have hsH := Lib.hid hs
                    clear hs
                    by_cases hsr : s = r
                    · subst hsr
                      go_wp2_with (at_builtin; refine wpList_append_own _ rfl _ _ 58 rfl wo.heap.size 2 i1 (.int .i64 0) 1 8 Tryz.underlying58 hi' hz0' hz1' hz2' rfl (by decide) _ np (intsN (partL f q s)) rfl (hpr.out.alloc _) ⟨wr.heap.size, 0, none⟩ 1 1 [.int .i64 (q : Int)] rfl rfl (cell_one_new _ _ _) (fun x hx => by simp at hx; subst hx; rfl) (by unfold maxLen; omega) (by omega) (by simp; omega) ?_; intro u3 w3 hown3 hgrow3 _; have hown3H := Lib.hid hown3; have hgrow3H := Lib.hid hgrow3; clear hown3 hgrow3)
                      go_roundg (k - (q + 1))
                      case measure => omega
                      case rel =>
                        refine ⟨q + 1, by omega, by omega, by go_num, Lib.hid ?_, Lib.hid ?_⟩
                        · rw [partL_succ_yes hsH.out, ← intsN_snoc, List.length_append, hnpH.out]
                          exact hown3H.out
                        · exact hbp.out.trans (below_app hszp (fun g e => (hpr.out.lt g e).1) hgrow3H.out)
                    · have hsd : ((s : Int) == (r : Int)) = false := by simp; omega
                      go_wp2
                      go_roundg (k - (q + 1))
                      case measure => omega
                      case rel =>
                        refine ⟨q + 1, by omega, by omega, by go_num, Lib.hid ?_, hbp⟩
                        rw [partL_succ_no (by rw [hsH.out]; exact hsr), hnpH.out]
                        exact hpr.out
                  · obtain rfl : q = k := by omega
                    have hO1 := Lib.hid (hO.out.below hbp.out)
                    have hprB := Lib.hid (ownsRow_base hpr.out hszq)
                    go_wp2_with (at_builtin; refine wpList_append_own_at _ rfl _ _ 186 rfl wb.heap.size 58 i0 (.slice none 0 0) 1 24 Tryz.underlying186 hi hz0 hz1 hz2 rfl (by decide) _ N0 us rfl ((hO1.out.outerN hulH.out).alloc _) ⟨wr.heap.size, 0, none⟩ 1 1 [.slice A2 np c2] rfl rfl (cell_one_new _ _ _) (fun x hx => by simp at hx; subst hx; rfl) (by unfold maxLen; omega) (by omega) (by simp; omega) ?_; intro v2 w2 hown2 hgrow2 _ hat2; have hO2 := Lib.hid ((hO1.out.alloc _).push hulH.out (hprB.out.alloc _) (fun g e => ⟨fun e' => by have := (hO.out.lt g e').2; have := (hpr.out.lt g e).1; omega, fun k u hu e' => by have := (hO.out.ltIn hu g e').2; have := (hpr.out.lt g e).1; omega⟩) hown2 hgrow2 hat2); have hgrow2H := Lib.hid hgrow2; clear hown2 hgrow2 hat2)
                    go_roundg (q - (r + 1))
                    case measure => omega
                    case rel =>
                      refine ⟨r + 1, us ++ [.slice A2 np c2], by omega, by go_num, Lib.hid ?_, Lib.hid ?_⟩
                      · rw [rootsL_succ_yes hrH.out, List.map_append, List.map_append]
                        exact hO2.out
                      · exact hbq.out.trans ((hbp.out.mono hszq).trans (below_app (by omega) (fun g e => (hO.out.lt g e).1) hgrow2H.out))
              · have hrd : ((r : Int) != (t : Int)) = true := by simp; omega
                go_wp2
                go_roundg (k - (t + 1))
                case measure => omega
                case rel =>
                  refine ⟨t + 1, us, by omega, by go_num, Lib.hid ?_, hbq⟩
                  rw [rootsL_succ_no (by rw [hrH.out]; exact hrt)]
                  exact hO.out
            · obtain rfl : t = k := by omega
              go_wp2
              go_ret
              refine ⟨_, us, rfl, ?_, ?_⟩
              · rw [hfH.out]
                exact hO.out.rebase hszl
              · exact hbw.out.trans (hbq.out.mono hszl)
end Go.Proofs.YtmpmokefgdjnkaaGreat
