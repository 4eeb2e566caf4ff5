/- Words for signal sets and cells: numbers, lamps, fires, tiles, cells. -/
import Derived.Test.YtbipnnjkddffbaaBase2
namespace Go.Proofs.Ytbipnnjkddffbaa
open Go.RowKit
set_option linter.unusedSimpArgs false
set_option linter.unusedVariables false
structure Fi where
  f : Int
  t : Int
structure Sti where
  name : ByteArray
  sides : List Int
  on : List Bool
  fires : List Fi
structure Sc where
  x : Int
  y : Int
  t : Int
  on : List Bool
  bound : List Bool
  fired : List Bool
def RBool (w : World) (b o : Nat) (v : Bool) : Prop := w.cell? ⟨b, o, none⟩ = some (.bool v)
theorem RBool.stable : Stable RBool := fun _ _ _ _ _ h hb hw => (hw.cell (by exact hb)).trans h
theorem RBool.stableAt (lo : Nat) : StableAt lo RBool := fun w _ b o _ h hlo hb hk => (World.cell?_of_block (w := w) (a := ⟨b, o, none⟩) (hk b hlo hb)).trans h
def RFi (w : World) (b o : Nat) (e : Fi) : Prop := w.cell? ⟨b, o, none⟩ = some (.int .i64 e.f) ∧ w.cell? ⟨b, o + 1, none⟩ = some (.int .i64 e.t)
theorem RFi.stable : Stable RFi := fun _ _ _ _ _ h hb hw => ⟨(hw.cell (by exact hb)).trans h.1, (hw.cell (by exact hb)).trans h.2⟩
theorem RFi.stableAt (lo : Nat) : StableAt lo RFi := fun w _ b o _ h hlo hb hk =>
  ⟨(World.cell?_of_block (w := w) (a := ⟨b, o, none⟩) (hk b hlo hb)).trans h.1, (World.cell?_of_block (w := w) (a := ⟨b, o + 1, none⟩) (hk b hlo hb)).trans h.2⟩
/-- a cell that holds a slice which reads as xs -/
def RSlc {α : Type} (size : Nat) (R : World → Nat → Nat → α → Prop) (w : World) (b o : Nat) (xs : List α) : Prop := ∃ A n c, w.cell? ⟨b, o, none⟩ = some (.slice A n c) ∧ RdSl size R w A n xs
theorem RSlc.stable {α : Type} {size : Nat} {R : World → Nat → Nat → α → Prop} (hR : Stable R) : Stable (RSlc size R) := fun _ _ _ _ _ ⟨A, n, c, h2, h3⟩ hb hw => ⟨A, n, c, (hw.cell (by exact hb)).trans h2, h3.below hR hw⟩
def RSti (w : World) (b o : Nat) (e : Sti) : Prop := w.cell? ⟨b, o, none⟩ = some (.string e.name) ∧ RSlc 1 RInt w b (o + 1) e.sides ∧ RSlc 1 RBool w b (o + 2) e.on ∧ RSlc 2 RFi w b (o + 3) e.fires
theorem RSti.stable : Stable RSti := fun _ _ _ _ _ ⟨h1, h2, h3, h4⟩ hb hw => ⟨(hw.cell (by exact hb)).trans h1, RSlc.stable RInt.stable _ _ _ _ _ h2 hb hw, RSlc.stable RBool.stable _ _ _ _ _ h3 hb hw, RSlc.stable RFi.stable _ _ _ _ _ h4 hb hw⟩
def RSc (w : World) (b o : Nat) (e : Sc) : Prop := w.cell? ⟨b, o, none⟩ = some (.int .i64 e.x) ∧ w.cell? ⟨b, o + 1, none⟩ = some (.int .i64 e.y) ∧ w.cell? ⟨b, o + 2, none⟩ = some (.int .i64 e.t) ∧ RSlc 1 RBool w b (o + 3) e.on ∧ RSlc 1 RBool w b (o + 4) e.bound ∧ RSlc 1 RBool w b (o + 5) e.fired
theorem RSc.stable : Stable RSc := fun _ _ _ _ _ ⟨h1, h2, h3, h4, h5, h6⟩ hb hw => ⟨(hw.cell (by exact hb)).trans h1, (hw.cell (by exact hb)).trans h2, (hw.cell (by exact hb)).trans h3, RSlc.stable RBool.stable _ _ _ _ _ h4 hb hw, RSlc.stable RBool.stable _ _ _ _ _ h5 hb hw, RSlc.stable RBool.stable _ _ _ _ _ h6 hb hw⟩
/-- a value that is a slice of a call's own making -/
def VOw {α : Type} (T size : Nat) (R : World → Nat → Nat → α → Prop) (w : World) (lo : Nat) (v : Value) (xs : List α) : Prop := ∃ A n, v = .slice A n n ∧ OwSl T size R w lo A n xs
section
variable {α : Type} {T size : Nat} {R : World → Nat → Nat → α → Prop} {w w' : World} {lo : Nat} {v : Value} {xs : List α}
theorem VOw.below (hR : Stable R) (h : VOw T size R w lo v xs) (hb : Below w.heap.size w w') : VOw T size R w' lo v xs := by
  obtain ⟨A, n, rfl, h⟩ := h; exact ⟨A, n, rfl, h.below hR hb⟩
theorem VOw.set (hR : StableAt lo R) (h : VOw T size R w lo v xs) {p : Addr} (hp : p.block < lo) (u : Value) : VOw T size R (w.setCell p u) lo v xs := by
  obtain ⟨A, n, rfl, h⟩ := h; exact ⟨A, n, rfl, h.set hR hp u⟩
theorem VOw.weaken (h : VOw T size R w lo v xs) {lo' : Nat} (hl : lo' ≤ lo) : VOw T size R w lo' v xs := by
  obtain ⟨A, n, rfl, h⟩ := h; exact ⟨A, n, rfl, h.weaken hl⟩
theorem VOw.keep (hR : StableAt lo R) (h : VOw T size R w lo v xs) (hk : ∀ k, lo ≤ k → k < w.heap.size → w'.heap[k]? = w.heap[k]?) : VOw T size R w' lo v xs := by
  obtain ⟨A, n, rfl, h⟩ := h; exact ⟨A, n, rfl, h.keep hR hk⟩
theorem VOw.slc (h : VOw T size R w lo v xs) {b o : Nat} (hc : w.cell? ⟨b, o, none⟩ = some v) : RSlc size R w b o xs := by
  obtain ⟨A, n, rfl, h⟩ := h; exact ⟨A, n, n, hc, h.rd⟩
end
/-- the four cells of a copied signal tile -/
def TiV (T Tb Tf : Nat) (w : World) (lo : Nat) (v0 v1 v2 v3 : Value) (e : Sti) : Prop := v0 = .string e.name ∧ VOw T 1 RInt w lo v1 e.sides ∧ VOw Tb 1 RBool w lo v2 e.on ∧ VOw Tf 2 RFi w lo v3 e.fires
section
variable {T Tb Tf : Nat} {w w' : World} {lo : Nat} {v0 v1 v2 v3 : Value} {e : Sti}
theorem TiV.below (h : TiV T Tb Tf w lo v0 v1 v2 v3 e) (hb : Below w.heap.size w w') : TiV T Tb Tf w' lo v0 v1 v2 v3 e := ⟨h.1, h.2.1.below RInt.stable hb, h.2.2.1.below RBool.stable hb, h.2.2.2.below RFi.stable hb⟩
theorem TiV.set (h : TiV T Tb Tf w lo v0 v1 v2 v3 e) {p : Addr} (hp : p.block < lo) (u : Value) : TiV T Tb Tf (w.setCell p u) lo v0 v1 v2 v3 e := ⟨h.1, h.2.1.set (RInt.stableAt _) hp u, h.2.2.1.set (RBool.stableAt _) hp u, h.2.2.2.set (RFi.stableAt _) hp u⟩
theorem TiV.keep (h : TiV T Tb Tf w lo v0 v1 v2 v3 e) (hk : ∀ k, lo ≤ k → k < w.heap.size → w'.heap[k]? = w.heap[k]?) : TiV T Tb Tf w' lo v0 v1 v2 v3 e := ⟨h.1, h.2.1.keep (RInt.stableAt _) hk, h.2.2.1.keep (RBool.stableAt _) hk, h.2.2.2.keep (RFi.stableAt _) hk⟩
theorem TiV.weaken (h : TiV T Tb Tf w lo v0 v1 v2 v3 e) {lo' : Nat} (hl : lo' ≤ lo) : TiV T Tb Tf w lo' v0 v1 v2 v3 e := ⟨h.1, h.2.1.weaken hl, h.2.2.1.weaken hl, h.2.2.2.weaken hl⟩
end
/-- the six cells of a copied signal cell -/
def ScV (Tb : Nat) (w : World) (lo : Nat) (v0 v1 v2 v3 v4 v5 : Value) (e : Sc) : Prop := v0 = .int .i64 e.x ∧ v1 = .int .i64 e.y ∧ v2 = .int .i64 e.t ∧ VOw Tb 1 RBool w lo v3 e.on ∧ VOw Tb 1 RBool w lo v4 e.bound ∧ VOw Tb 1 RBool w lo v5 e.fired
section
variable {Tb : Nat} {w w' : World} {lo : Nat} {v0 v1 v2 v3 v4 v5 : Value} {e : Sc}
theorem ScV.below (h : ScV Tb w lo v0 v1 v2 v3 v4 v5 e) (hb : Below w.heap.size w w') : ScV Tb w' lo v0 v1 v2 v3 v4 v5 e := ⟨h.1, h.2.1, h.2.2.1, h.2.2.2.1.below RBool.stable hb, h.2.2.2.2.1.below RBool.stable hb, h.2.2.2.2.2.below RBool.stable hb⟩
theorem ScV.set (h : ScV Tb w lo v0 v1 v2 v3 v4 v5 e) {p : Addr} (hp : p.block < lo) (u : Value) : ScV Tb (w.setCell p u) lo v0 v1 v2 v3 v4 v5 e := ⟨h.1, h.2.1, h.2.2.1, h.2.2.2.1.set (RBool.stableAt _) hp u, h.2.2.2.2.1.set (RBool.stableAt _) hp u, h.2.2.2.2.2.set (RBool.stableAt _) hp u⟩
theorem ScV.weaken (h : ScV Tb w lo v0 v1 v2 v3 v4 v5 e) {lo' : Nat} (hl : lo' ≤ lo) : ScV Tb w lo' v0 v1 v2 v3 v4 v5 e := ⟨h.1, h.2.1, h.2.2.1, h.2.2.2.1.weaken hl, h.2.2.2.2.1.weaken hl, h.2.2.2.2.2.weaken hl⟩
end
end Go.Proofs.Ytbipnnjkddffbaa
