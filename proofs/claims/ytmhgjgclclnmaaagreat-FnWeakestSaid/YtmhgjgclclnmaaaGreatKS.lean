import Derived.Test.YtmhgjgclclnmaaaGreatBase2
import Derived.Test.YtmhgjgclclnmaaaGreatOrd
import Derived.Test.YtmhgjgclclnmaaaGreatW1
import Derived.Test.YtmhgjgclclnmaaaGreatHTo
import Derived.Test.YtmhgjgclclnmaaaGreatKN
import Derived.Test.YtmhgjgclclnmaaaGreatOrdApp
import Derived.Test.YtmhgjgclclnmaaaGreatW9
import Derived.Lib.LazyBuf
import Derived.Lib.SliceRun
set_option linter.unusedSimpArgs false
set_option linter.unusedVariables false
/- Words for signal sets and cells: numbers, lamps, fires, tiles, cells. -/

namespace Go.Proofs.YtmhgjgclclnmaaaGreat
open Go.RowKit
structure Fi where
  f : Int
  t : Int
structure Sti where
  name : ByteArray
  sides : List Int
  on : List Bool
  fires : List Fi
structure Sc where
  x : Int
  y : Int
  t : Int
  on : List Bool
  bound : List Bool
  fired : List Bool
def RBool (w : World) (b o : Nat) (v : Bool) : Prop := w.cell? ⟨b, o, none⟩ = some (.bool v)
theorem RBool.stable : Stable RBool := fun _ _ _ _ _ h hb hw => (hw.cell (by exact hb)).trans h
theorem RBool.stableAt (lo : Nat) : StableAt lo RBool := fun w _ b o _ h hlo hb hk => (World.cell?_of_block (w := w) (a := ⟨b, o, none⟩) (hk b hlo hb)).trans h
def RFi (w : World) (b o : Nat) (e : Fi) : Prop := w.cell? ⟨b, o, none⟩ = some (.int .i64 e.f) ∧ w.cell? ⟨b, o + 1, none⟩ = some (.int .i64 e.t)
theorem RFi.stable : Stable RFi := fun _ _ _ _ _ h hb hw => ⟨(hw.cell (by exact hb)).trans h.1, (hw.cell (by exact hb)).trans h.2⟩
theorem RFi.stableAt (lo : Nat) : StableAt lo RFi := fun w _ b o _ h hlo hb hk =>
  ⟨(World.cell?_of_block (w := w) (a := ⟨b, o, none⟩) (hk b hlo hb)).trans h.1, (World.cell?_of_block (w := w) (a := ⟨b, o + 1, none⟩) (hk b hlo hb)).trans h.2⟩
/-- a cell that holds a slice which reads as xs -/
def RSlc {α : Type} (size : Nat) (R : World → Nat → Nat → α → Prop) (w : World) (b o : Nat) (xs : List α) : Prop := ∃ A n c, w.cell? ⟨b, o, none⟩ = some (.slice A n c) ∧ RdSl size R w A n xs
theorem RSlc.stable {α : Type} {size : Nat} {R : World → Nat → Nat → α → Prop} (hR : Stable R) : Stable (RSlc size R) := fun _ _ _ _ _ ⟨A, n, c, h2, h3⟩ hb hw => ⟨A, n, c, (hw.cell (by exact hb)).trans h2, h3.below hR hw⟩
def RSti (w : World) (b o : Nat) (e : Sti) : Prop := w.cell? ⟨b, o, none⟩ = some (.string e.name) ∧ RSlc 1 RInt w b (o + 1) e.sides ∧ RSlc 1 RBool w b (o + 2) e.on ∧ RSlc 2 RFi w b (o + 3) e.fires
theorem RSti.stable : Stable RSti := fun _ _ _ _ _ ⟨h1, h2, h3, h4⟩ hb hw => ⟨(hw.cell (by exact hb)).trans h1, RSlc.stable RInt.stable _ _ _ _ _ h2 hb hw, RSlc.stable RBool.stable _ _ _ _ _ h3 hb hw, RSlc.stable RFi.stable _ _ _ _ _ h4 hb hw⟩
def RSc (w : World) (b o : Nat) (e : Sc) : Prop := w.cell? ⟨b, o, none⟩ = some (.int .i64 e.x) ∧ w.cell? ⟨b, o + 1, none⟩ = some (.int .i64 e.y) ∧ w.cell? ⟨b, o + 2, none⟩ = some (.int .i64 e.t) ∧ RSlc 1 RBool w b (o + 3) e.on ∧ RSlc 1 RBool w b (o + 4) e.bound ∧ RSlc 1 RBool w b (o + 5) e.fired
theorem RSc.stable : Stable RSc := fun _ _ _ _ _ ⟨h1, h2, h3, h4, h5, h6⟩ hb hw => ⟨(hw.cell (by exact hb)).trans h1, (hw.cell (by exact hb)).trans h2, (hw.cell (by exact hb)).trans h3, RSlc.stable RBool.stable _ _ _ _ _ h4 hb hw, RSlc.stable RBool.stable _ _ _ _ _ h5 hb hw, RSlc.stable RBool.stable _ _ _ _ _ h6 hb hw⟩
/-- a value that is a slice of a call's own making -/
def VOw {α : Type} (T size : Nat) (R : World → Nat → Nat → α → Prop) (w : World) (lo : Nat) (v : Value) (xs : List α) : Prop := ∃ A n, v = .slice A n n ∧ OwSl T size R w lo A n xs
section
variable {α : Type} {T size : Nat} {R : World → Nat → Nat → α → Prop} {w w' : World} {lo : Nat} {v : Value} {xs : List α}
theorem VOw.below (hR : Stable R) (h : VOw T size R w lo v xs) (hb : Below w.heap.size w w') : VOw T size R w' lo v xs := by
  obtain ⟨A, n, rfl, h⟩ := h; exact ⟨A, n, rfl, h.below hR hb⟩
theorem VOw.set (hR : StableAt lo R) (h : VOw T size R w lo v xs) {p : Addr} (hp : p.block < lo) (u : Value) : VOw T size R (w.setCell p u) lo v xs := by
  obtain ⟨A, n, rfl, h⟩ := h; exact ⟨A, n, rfl, h.set hR hp u⟩
theorem VOw.weaken (h : VOw T size R w lo v xs) {lo' : Nat} (hl : lo' ≤ lo) : VOw T size R w lo' v xs := by
  obtain ⟨A, n, rfl, h⟩ := h; exact ⟨A, n, rfl, h.weaken hl⟩
theorem VOw.keep (hR : StableAt lo R) (h : VOw T size R w lo v xs) (hk : ∀ k, lo ≤ k → k < w.heap.size → w'.heap[k]? = w.heap[k]?) : VOw T size R w' lo v xs := by
  obtain ⟨A, n, rfl, h⟩ := h; exact ⟨A, n, rfl, h.keep hR hk⟩
theorem VOw.slc (h : VOw T size R w lo v xs) {b o : Nat} (hc : w.cell? ⟨b, o, none⟩ = some v) : RSlc size R w b o xs := by
  obtain ⟨A, n, rfl, h⟩ := h; exact ⟨A, n, n, hc, h.rd⟩
end
/-- the four cells of a copied signal tile -/
def TiV (T Tb Tf : Nat) (w : World) (lo : Nat) (v0 v1 v2 v3 : Value) (e : Sti) : Prop := v0 = .string e.name ∧ VOw T 1 RInt w lo v1 e.sides ∧ VOw Tb 1 RBool w lo v2 e.on ∧ VOw Tf 2 RFi w lo v3 e.fires
section
variable {T Tb Tf : Nat} {w w' : World} {lo : Nat} {v0 v1 v2 v3 : Value} {e : Sti}
theorem TiV.below (h : TiV T Tb Tf w lo v0 v1 v2 v3 e) (hb : Below w.heap.size w w') : TiV T Tb Tf w' lo v0 v1 v2 v3 e := ⟨h.1, h.2.1.below RInt.stable hb, h.2.2.1.below RBool.stable hb, h.2.2.2.below RFi.stable hb⟩
theorem TiV.set (h : TiV T Tb Tf w lo v0 v1 v2 v3 e) {p : Addr} (hp : p.block < lo) (u : Value) : TiV T Tb Tf (w.setCell p u) lo v0 v1 v2 v3 e := ⟨h.1, h.2.1.set (RInt.stableAt _) hp u, h.2.2.1.set (RBool.stableAt _) hp u, h.2.2.2.set (RFi.stableAt _) hp u⟩
theorem TiV.keep (h : TiV T Tb Tf w lo v0 v1 v2 v3 e) (hk : ∀ k, lo ≤ k → k < w.heap.size → w'.heap[k]? = w.heap[k]?) : TiV T Tb Tf w' lo v0 v1 v2 v3 e := ⟨h.1, h.2.1.keep (RInt.stableAt _) hk, h.2.2.1.keep (RBool.stableAt _) hk, h.2.2.2.keep (RFi.stableAt _) hk⟩
theorem TiV.weaken (h : TiV T Tb Tf w lo v0 v1 v2 v3 e) {lo' : Nat} (hl : lo' ≤ lo) : TiV T Tb Tf w lo' v0 v1 v2 v3 e := ⟨h.1, h.2.1.weaken hl, h.2.2.1.weaken hl, h.2.2.2.weaken hl⟩
end
/-- the six cells of a copied signal cell -/
def ScV (Tb : Nat) (w : World) (lo : Nat) (v0 v1 v2 v3 v4 v5 : Value) (e : Sc) : Prop := v0 = .int .i64 e.x ∧ v1 = .int .i64 e.y ∧ v2 = .int .i64 e.t ∧ VOw Tb 1 RBool w lo v3 e.on ∧ VOw Tb 1 RBool w lo v4 e.bound ∧ VOw Tb 1 RBool w lo v5 e.fired
section
variable {Tb : Nat} {w w' : World} {lo : Nat} {v0 v1 v2 v3 v4 v5 : Value} {e : Sc}
theorem ScV.below (h : ScV Tb w lo v0 v1 v2 v3 v4 v5 e) (hb : Below w.heap.size w w') : ScV Tb w' lo v0 v1 v2 v3 v4 v5 e := ⟨h.1, h.2.1, h.2.2.1, h.2.2.2.1.below RBool.stable hb, h.2.2.2.2.1.below RBool.stable hb, h.2.2.2.2.2.below RBool.stable hb⟩
theorem ScV.set (h : ScV Tb w lo v0 v1 v2 v3 v4 v5 e) {p : Addr} (hp : p.block < lo) (u : Value) : ScV Tb (w.setCell p u) lo v0 v1 v2 v3 v4 v5 e := ⟨h.1, h.2.1, h.2.2.1, h.2.2.2.1.set (RBool.stableAt _) hp u, h.2.2.2.2.1.set (RBool.stableAt _) hp u, h.2.2.2.2.2.set (RBool.stableAt _) hp u⟩
theorem ScV.weaken (h : ScV Tb w lo v0 v1 v2 v3 v4 v5 e) {lo' : Nat} (hl : lo' ≤ lo) : ScV Tb w lo' v0 v1 v2 v3 v4 v5 e := ⟨h.1, h.2.1, h.2.2.1, h.2.2.2.1.weaken hl, h.2.2.2.2.1.weaken hl, h.2.2.2.2.2.weaken hl⟩
end
end Go.Proofs.YtmhgjgclclnmaaaGreat
/- Walks: the fires of a signal tile, by the program. -/




namespace Go.Proofs.YtmhgjgclclnmaaaGreat
open Go.RowKit
attribute [local go_sem] BelowBy.cell BelowBy.cell_drew stillUpon givesUpon

/-- the glue on a side -/
def sideAt (s : List Int) (d : Int) : Int := (s[d.toNat]?).getD 0
/-- a fire is right at a tile with these sides -/
def fireOk (s : List Int) (f : Fi) : Bool := inB f.f 0 3 && (inB f.t 0 3 && (decide (f.f ≠ f.t) && (decide (sideAt s f.f ≠ 0) && decide (sideAt s f.t ≠ 0))))
end Go.Proofs.YtmhgjgclclnmaaaGreat
/- Walks: slices.IndexFunc and ContainsFunc at the fires of a signal tile. -/

namespace Go.Proofs.YtmhgjgclclnmaaaGreat
open Go.RowKit
attribute [local go_sem] BelowBy.cell BelowBy.cell_drew stillUpon givesUpon

/-- the test of fire j -/
def okFi (sd : List Int) (fs : List Fi) (j : Nat) : Bool := match fs[j]? with
  | some f => fireOk sd f
  | none => true
def FirstS (w : World) (n : Nat) (ok : Nat → Bool) (e : Ending) (w' : World) : Prop := ∃ r : Int, e = .returned (.int .i64 r) ∧ decide (0 ≤ r) = (!allB n ok) ∧ Below w.heap.size w w'
end Go.Proofs.YtmhgjgclclnmaaaGreat
/- Walks: a signal tile's check, and slices.ContainsFunc at signal tiles. -/

namespace Go.Proofs.YtmhgjgclclnmaaaGreat
open Go.RowKit
attribute [local go_sem] BelowBy.cell BelowBy.cell_drew stillUpon givesUpon

/-- a bool of a list -/
def onAt (l : List Bool) (d : Int) : Bool := (l[d.toNat]?).getD false
theorem onAt_eq {l : List Bool} {k : Nat} {v : Bool} (h : l[k]? = some v) : onAt l (k : Int) = v := by unfold onAt; simp [h]
theorem sideAt_eq {l : List Int} {k : Nat} {v : Int} (h : l[k]? = some v) : sideAt l (k : Int) = v := by unfold sideAt; simp [h]
/-- a side that is on bears a glue -/
def okOn (e : Sti) (d : Nat) : Bool := !(onAt e.on d && decide (sideAt e.sides d = 0))
theorem okOn_f {e : Sti} {d : Nat} (h : e.on[d]? = some false) : okOn e d = true := by unfold okOn; rw [onAt_eq h]; rfl
theorem okOn_t {e : Sti} {d : Nat} {v : Int} (h : e.on[d]? = some true) (hv : e.sides[d]? = some v) : okOn e d = !decide (v = 0) := by unfold okOn; rw [onAt_eq h, sideAt_eq hv]; rfl
def okSt (e : Sti) : Bool := decide (e.on.length = 4) && (decide (e.fires.length ≤ 6) && (allB 4 (okOn e) && allB e.fires.length (okFi e.sides e.fires)))
theorem okSt_on {e : Sti} (h : ¬ e.on.length = 4) : okSt e = false := by unfold okSt; rw [decide_eq_false h]; rfl
theorem okSt_fi {e : Sti} (h : ¬ e.fires.length ≤ 6) : okSt e = false := by unfold okSt; rw [decide_eq_false h]; simp
theorem okSt_side {e : Sti} {d : Nat} (hd : d < 4) (h : okOn e d = false) : okSt e = false := by unfold okSt; rw [allB_false hd h]; simp
theorem okSt_fires {e : Sti} {b : Bool} (h1 : e.on.length = 4) (h2 : e.fires.length ≤ 6) (h : ∀ j, j < 4 → okOn e j = true) (h3 : allB e.fires.length (okFi e.sides e.fires) = b) : okSt e = b := by
  unfold okSt; rw [allB_true h, decide_eq_true h1, decide_eq_true h2, h3]; simp
/-- the test of tile j -/
def okStJ (ts : List Sti) (j : Nat) : Bool := match ts[j]? with
  | some e => okSt e
  | none => true
theorem okStJ_eq {ts : List Sti} {j : Nat} {e : Sti} (h : ts[j]? = some e) : okStJ ts j = okSt e := by unfold okStJ; rw [h]
/-- what the copies of signal tiles say of their rows' lengths -/
def SmSt (ts : List Sti) : Prop := ∀ (k : Nat) (e : Sti), ts[k]? = some e → e.sides.length = 4 ∧ e.on.length ≤ 1073741824 ∧ e.fires.length ≤ 1073741824
end Go.Proofs.YtmhgjgclclnmaaaGreat
/- Walks: the harness' copies of signal sets and cells (printed by gen_sg.py). -/


namespace Go.Proofs.YtmhgjgclclnmaaaGreat
open Go.RowKit
attribute [local go_sem] BelowBy.cell BelowBy.cell_drew stillUpon givesUpon
theorem infoB : (Tryz.prog.info? 4).map (fun i => (i.zero, i.size, i.bytes)) = some (some (.bool false), 1, 1) := by kernel_rfl
def ResSti (Ti Tb Tf : Nat) (w : World) (x : Sti) (e : Ending) (w' : World) : Prop :=
  ∃ v1 v2 v3, e = .returned (.agg #[.string x.name, v1, v2, v3]) ∧ TiV Ti Tb Tf w' w.heap.size (.string x.name) v1 v2 v3 x ∧ Below w.heap.size w w'
/-- a signal tile whose rows are of a call's own making -/
def ROSti (Ti Tb Tf lo : Nat) (w : World) (b o : Nat) (e : Sti) : Prop := ∃ v0 v1 v2 v3, w.cell? ⟨b, o, none⟩ = some v0 ∧ w.cell? ⟨b, o + 1, none⟩ = some v1 ∧ w.cell? ⟨b, o + 2, none⟩ = some v2 ∧ w.cell? ⟨b, o + 3, none⟩ = some v3 ∧ TiV Ti Tb Tf w lo v0 v1 v2 v3 e
theorem ROSti.rd {Ti Tb Tf lo : Nat} {w : World} {b o : Nat} {e : Sti} (h : ROSti Ti Tb Tf lo w b o e) : RSti w b o e := by
  obtain ⟨v0, v1, v2, v3, c0, c1, c2, c3, rfl, h1, h2, h3⟩ := h
  exact ⟨c0, h1.slc c1, h2.slc c2, h3.slc c3⟩
theorem ROSti.stable (Ti Tb Tf lo : Nat) : Stable (ROSti Ti Tb Tf lo) := fun _ _ _ _ _ ⟨v0, v1, v2, v3, c0, c1, c2, c3, h⟩ hb hw =>
  ⟨v0, v1, v2, v3, (hw.cell (by exact hb)).trans c0, (hw.cell (by exact hb)).trans c1, (hw.cell (by exact hb)).trans c2, (hw.cell (by exact hb)).trans c3, h.below hw⟩
theorem ROSti.stableAt (Ti Tb Tf lo : Nat) : StableAt lo (ROSti Ti Tb Tf lo) := fun w _ b o _ ⟨v0, v1, v2, v3, c0, c1, c2, c3, h⟩ hlo hb hk =>
  ⟨v0, v1, v2, v3, (World.cell?_of_block (w := w) (a := ⟨b, o, none⟩) (hk b hlo hb)).trans c0, (World.cell?_of_block (w := w) (a := ⟨b, o + 1, none⟩) (hk b hlo hb)).trans c1, (World.cell?_of_block (w := w) (a := ⟨b, o + 2, none⟩) (hk b hlo hb)).trans c2, (World.cell?_of_block (w := w) (a := ⟨b, o + 3, none⟩) (hk b hlo hb)).trans c3, h.keep hk⟩
theorem OwSl.rdSti {T Ti Tb Tf lo lo' : Nat} {w : World} {A : Option Addr} {n : Nat} {xs : List Sti} (h : OwSl T 4 (ROSti Ti Tb Tf lo) w lo' A n xs) : RdSl 4 RSti w A n xs :=
  ⟨h.len, fun hn => by
    obtain ⟨b, o, hA, hb, hc⟩ := h.rd.cells hn
    exact ⟨b, o, hA, hb, fun k hk => (hc k hk).rd⟩⟩
def ResSc (Tb : Nat) (w : World) (x : Sc) (e : Ending) (w' : World) : Prop :=
  ∃ A1 n1 A2 n2 A3 n3, e = .returned (.agg #[.int .i64 x.x, .int .i64 x.y, .int .i64 x.t, .slice A1 n1 n1, .slice A2 n2 n2, .slice A3 n3 n3]) ∧ ScV Tb w' w.heap.size (.int .i64 x.x) (.int .i64 x.y) (.int .i64 x.t) (.slice A1 n1 n1) (.slice A2 n2 n2) (.slice A3 n3 n3) x ∧ Below w.heap.size w w'
end Go.Proofs.YtmhgjgclclnmaaaGreat
/- Walks: copies of glues and of numbers; a signal set without its signals; its check. -/







namespace Go.Proofs.YtmhgjgclclnmaaaGreat
open Go.RowKit Go.Shelf
attribute [local go_sem] BelowBy.cell BelowBy.cell_drew stillUpon givesUpon

def OwnGls (w : World) (gs : List Gl) (e : Ending) (w' : World) : Prop := ∃ v, e = .returned v ∧ w'.ownsRow w.heap.size 143 2 v gs.length (flatC encGl gs) ∧ Below w.heap.size w w'
def OwnIs (w : World) (xs : List Int) (e : Ending) (w' : World) : Prop := ∃ v, e = .returned v ∧ w'.ownsRow w.heap.size 2 1 v xs.length (flatC encI xs) ∧ Below w.heap.size w w'
theorem nil_len {α : Type} {size : Nat} {R : World → Nat → Nat → α → Prop} {w : World} {n : Nat} {xs : List α} (h : RdSl size R w none n xs) : n = 0 ∧ xs = [] := by
  have h0 : n = 0 := by
    rcases Nat.eq_zero_or_pos n with h0 | h0
    · exact h0
    · obtain ⟨b, o, e, _⟩ := h.cells h0; cases e
  subst h0
  exact ⟨rfl, List.eq_nil_of_length_eq_zero h.len⟩
theorem glCells_of_rd {w : World} {b o : Nat} {xs : List Gl} (h : ∀ k e, xs[k]? = some e → RGl w b (o + k * 2) e) : ∀ j u, (flatC encGl xs)[j]? = some u → w.cell? ((⟨b, o, none⟩ : Addr).add j) = some u :=
  flatC_of_rd (by decide) encGl_len fun k e he j u hu => by
    obtain ⟨c0, c1⟩ := h k e he
    match j, hu with
    | 0, hu => simp [encGl] at hu; subst hu; exact c0
    | 1, hu => simp [encGl] at hu; subst hu; exact c1
    | j + 2, hu => simp [encGl] at hu
theorem iCells_of_rd {w : World} {b o : Nat} {xs : List Int} (h : ∀ k e, xs[k]? = some e → RInt w b (o + k * 1) e) : ∀ j u, (flatC encI xs)[j]? = some u → w.cell? ((⟨b, o, none⟩ : Addr).add j) = some u :=
  flatC_of_rd (by decide) encI_len fun k e he j u hu => by
    have c0 := h k e he
    match j, hu with
    | 0, hu => simp [encI] at hu; subst hu; exact c0
    | j + 1, hu => simp [encI] at hu
/-- the cells of a row that reads, behind one laying -/
theorem cl_of_gl {w : World} {ad : Addr} {n : Nat} {xs : List Gl} (h : RdSl 2 RGl w (some ad) n xs) : ∀ (ob : Obj) j u, (flatC encGl xs)[j]? = some u → (w.alloc ob).cell? (ad.add j) = some u := fun ob j u hj => by
  have hlt := (List.getElem?_eq_some_iff.1 hj).1
  have hl := h.len
  rw [flatC_len encGl_len] at hlt
  obtain ⟨b, o, e, hb, hc⟩ := h.ptr (by omega)
  injection e with e
  subst e
  refine Eq.trans (World.cell?_alloc_lt _ _ _ ?_) (glCells_of_rd hc j u hj)
  rw [Addr.add_lit]; exact hb
theorem cl_of_i {w : World} {ad : Addr} {n : Nat} {xs : List Int} (h : RdSl 1 RInt w (some ad) n xs) : ∀ (ob : Obj) j u, (flatC encI xs)[j]? = some u → (w.alloc ob).cell? (ad.add j) = some u := fun ob j u hj => by
  have hlt := (List.getElem?_eq_some_iff.1 hj).1
  have hl := h.len
  rw [flatC_len encI_len] at hlt
  obtain ⟨b, o, e, hb, hc⟩ := h.ptr (by omega)
  injection e with e
  subst e
  refine Eq.trans (World.cell?_alloc_lt _ _ _ ?_) (iCells_of_rd hc j u hj)
  rw [Addr.add_lit]; exact hb
def tiOf (e : Sti) : Ti := ⟨e.name, e.sides⟩
def tisOf (ts : List Sti) : List Ti := ts.map tiOf
theorem tisOf_len (ts : List Sti) : (tisOf ts).length = ts.length := by simp [tisOf]
theorem tisOf_get {ts : List Sti} {k : Nat} {e : Sti} (h : ts[k]? = some e) : (tisOf ts)[k]? = some (tiOf e) := by simp [tisOf, h]
theorem tisOf_inv {ts : List Sti} {k : Nat} {e : Ti} (h : (tisOf ts)[k]? = some e) : ∃ t, ts[k]? = some t ∧ e = tiOf t := by
  simp only [tisOf, List.getElem?_map, Option.map_eq_some_iff] at h
  obtain ⟨t, h1, h2⟩ := h
  exact ⟨t, h1, h2.symm⟩
theorem take_snoc {α : Type} {l : List α} {k : Nat} {e : α} (h : l[k]? = some e) : l.take (k + 1) = l.take k ++ [e] := by
  rw [List.take_add_one, h]; rfl
/-- a tile set of a call's own making, as a value -/
structure SetOwn (w : World) (lo : Nat) (v : Value) (gs : List Gl) (ts : List Ti) : Prop where
  out : ∃ vg vt us, v = .agg #[vg, vt] ∧ w.ownsRow lo 143 2 vg gs.length (flatC encGl gs) ∧ OwnT w lo 145 2 vt us ts
theorem SetOwn.rd {w : World} {lo : Nat} {v : Value} {gs : List Gl} {ts : List Ti} (h : SetOwn w lo v gs ts) : ∃ A n c B m d, v = .agg #[.slice A n c, .slice B m d] ∧ RdSl 2 RGl w A n gs ∧ RdSl 2 RTi w B m ts := by
  obtain ⟨vg, vt, us, rfl, hg, ht⟩ := h.out
  obtain ⟨A, c, rfl, hA⟩ := rdGl_of_flat hg
  obtain ⟨B, d, rfl, hB⟩ := ht.rd
  exact ⟨A, _, c, B, _, d, rfl, hA, hB⟩
def PlainRes (w : World) (gs : List Gl) (ts : List Sti) (e : Ending) (w' : World) : Prop := ∃ v, e = .returned v ∧ SetOwn w' w.heap.size v gs (tisOf ts) ∧ Below w.heap.size w w'
theorem allB_at' {n k : Nat} {p : Nat → Bool} (h : allB n p = true) (hk : k < n) : p k = true := by
  simp only [allB, List.all_eq_true, List.mem_range] at h
  exact h k hk
/-- the set's check -/
def sgSetB (gs : List Gl) (ts : List Sti) : Bool := validSetB gs (tisOf ts) && allB ts.length (okStJ ts)
def BigG (gs : List Gl) : Prop := ∀ (k : Nat) (e : Gl), gs[k]? = some e → e.name.size ≤ 9223372036854775807
def BigS (ts : List Sti) : Prop := ∀ (k : Nat) (e : Sti), ts[k]? = some e → e.name.size ≤ 9223372036854775807 ∧ e.sides.length ≤ 1073741824 ∧ e.on.length ≤ 1073741824 ∧ e.fires.length ≤ 1073741824
theorem valid_four {gs : List Gl} {ts : List Ti} (h : validSetB gs ts = true) {k : Nat} {t : Ti} (hk : ts[k]? = some t) : t.sides.length = 4 := by
  unfold validSetB at h
  simp only [Bool.and_eq_true] at h
  have := allB_at' h.2.2 ((List.getElem?_eq_some_iff.1 hk).1)
  rw [okTi_eq hk] at this
  simp only [Bool.and_eq_true, decide_eq_true_eq] at this
  exact this.2.1
theorem smSt_of {gs : List Gl} {ts : List Sti} (h : validSetB gs (tisOf ts) = true) (hb : BigS ts) : SmSt ts := fun k e he => ⟨valid_four h (tisOf_get he), (hb k e he).2.2.1, (hb k e he).2.2.2⟩
end Go.Proofs.YtmhgjgclclnmaaaGreat
