import Derived.Test.YtbipnnjkddffbaaBase2
import Derived.Test.YtbipnnjkddffbaaOrd
import Derived.Test.YtbipnnjkddffbaaW1
import Derived.Test.YtbipnnjkddffbaaHTo
import Derived.Test.YtbipnnjkddffbaaKN
import Derived.Test.YtbipnnjkddffbaaOrdApp
import Derived.Test.YtbipnnjkddffbaaW9
import Derived.Lib.LazyBuf
import Derived.Lib.SliceRun
set_option linter.unusedSimpArgs false
set_option linter.unusedVariables false
/- Words for signal sets and cells: numbers, lamps, fires, tiles, cells. -/

namespace Go.Proofs.Ytbipnnjkddffbaa
open Go.RowKit
structure Fi where
  f : Int
  t : Int
structure Sti where
  name : ByteArray
  sides : List Int
  on : List Bool
  fires : List Fi
structure Sc where
  x : Int
  y : Int
  t : Int
  on : List Bool
  bound : List Bool
  fired : List Bool
def RBool (w : World) (b o : Nat) (v : Bool) : Prop := w.cell? ⟨b, o, none⟩ = some (.bool v)
theorem RBool.stable : Stable RBool := fun _ _ _ _ _ h hb hw => (hw.cell (by exact hb)).trans h
theorem RBool.stableAt (lo : Nat) : StableAt lo RBool := fun w _ b o _ h hlo hb hk => (World.cell?_of_block (w := w) (a := ⟨b, o, none⟩) (hk b hlo hb)).trans h
def RFi (w : World) (b o : Nat) (e : Fi) : Prop := w.cell? ⟨b, o, none⟩ = some (.int .i64 e.f) ∧ w.cell? ⟨b, o + 1, none⟩ = some (.int .i64 e.t)
theorem RFi.stable : Stable RFi := fun _ _ _ _ _ h hb hw => ⟨(hw.cell (by exact hb)).trans h.1, (hw.cell (by exact hb)).trans h.2⟩
theorem RFi.stableAt (lo : Nat) : StableAt lo RFi := fun w _ b o _ h hlo hb hk =>
  ⟨(World.cell?_of_block (w := w) (a := ⟨b, o, none⟩) (hk b hlo hb)).trans h.1, (World.cell?_of_block (w := w) (a := ⟨b, o + 1, none⟩) (hk b hlo hb)).trans h.2⟩
/-- a cell that holds a slice which reads as xs -/
def RSlc {α : Type} (size : Nat) (R : World → Nat → Nat → α → Prop) (w : World) (b o : Nat) (xs : List α) : Prop := ∃ A n c, w.cell? ⟨b, o, none⟩ = some (.slice A n c) ∧ RdSl size R w A n xs
theorem RSlc.stable {α : Type} {size : Nat} {R : World → Nat → Nat → α → Prop} (hR : Stable R) : Stable (RSlc size R) := fun _ _ _ _ _ ⟨A, n, c, h2, h3⟩ hb hw => ⟨A, n, c, (hw.cell (by exact hb)).trans h2, h3.below hR hw⟩
def RSti (w : World) (b o : Nat) (e : Sti) : Prop := w.cell? ⟨b, o, none⟩ = some (.string e.name) ∧ RSlc 1 RInt w b (o + 1) e.sides ∧ RSlc 1 RBool w b (o + 2) e.on ∧ RSlc 2 RFi w b (o + 3) e.fires
theorem RSti.stable : Stable RSti := fun _ _ _ _ _ ⟨h1, h2, h3, h4⟩ hb hw => ⟨(hw.cell (by exact hb)).trans h1, RSlc.stable RInt.stable _ _ _ _ _ h2 hb hw, RSlc.stable RBool.stable _ _ _ _ _ h3 hb hw, RSlc.stable RFi.stable _ _ _ _ _ h4 hb hw⟩
def RSc (w : World) (b o : Nat) (e : Sc) : Prop := w.cell? ⟨b, o, none⟩ = some (.int .i64 e.x) ∧ w.cell? ⟨b, o + 1, none⟩ = some (.int .i64 e.y) ∧ w.cell? ⟨b, o + 2, none⟩ = some (.int .i64 e.t) ∧ RSlc 1 RBool w b (o + 3) e.on ∧ RSlc 1 RBool w b (o + 4) e.bound ∧ RSlc 1 RBool w b (o + 5) e.fired
theorem RSc.stable : Stable RSc := fun _ _ _ _ _ ⟨h1, h2, h3, h4, h5, h6⟩ hb hw => ⟨(hw.cell (by exact hb)).trans h1, (hw.cell (by exact hb)).trans h2, (hw.cell (by exact hb)).trans h3, RSlc.stable RBool.stable _ _ _ _ _ h4 hb hw, RSlc.stable RBool.stable _ _ _ _ _ h5 hb hw, RSlc.stable RBool.stable _ _ _ _ _ h6 hb hw⟩
/-- a value that is a slice of a call's own making -/
def VOw {α : Type} (T size : Nat) (R : World → Nat → Nat → α → Prop) (w : World) (lo : Nat) (v : Value) (xs : List α) : Prop := ∃ A n, v = .slice A n n ∧ OwSl T size R w lo A n xs
section
variable {α : Type} {T size : Nat} {R : World → Nat → Nat → α → Prop} {w w' : World} {lo : Nat} {v : Value} {xs : List α}
theorem VOw.below (hR : Stable R) (h : VOw T size R w lo v xs) (hb : Below w.heap.size w w') : VOw T size R w' lo v xs := by
  obtain ⟨A, n, rfl, h⟩ := h; exact ⟨A, n, rfl, h.below hR hb⟩
theorem VOw.set (hR : StableAt lo R) (h : VOw T size R w lo v xs) {p : Addr} (hp : p.block < lo) (u : Value) : VOw T size R (w.setCell p u) lo v xs := by
  obtain ⟨A, n, rfl, h⟩ := h; exact ⟨A, n, rfl, h.set hR hp u⟩
theorem VOw.weaken (h : VOw T size R w lo v xs) {lo' : Nat} (hl : lo' ≤ lo) : VOw T size R w lo' v xs := by
  obtain ⟨A, n, rfl, h⟩ := h; exact ⟨A, n, rfl, h.weaken hl⟩
theorem VOw.keep (hR : StableAt lo R) (h : VOw T size R w lo v xs) (hk : ∀ k, lo ≤ k → k < w.heap.size → w'.heap[k]? = w.heap[k]?) : VOw T size R w' lo v xs := by
  obtain ⟨A, n, rfl, h⟩ := h; exact ⟨A, n, rfl, h.keep hR hk⟩
theorem VOw.slc (h : VOw T size R w lo v xs) {b o : Nat} (hc : w.cell? ⟨b, o, none⟩ = some v) : RSlc size R w b o xs := by
  obtain ⟨A, n, rfl, h⟩ := h; exact ⟨A, n, n, hc, h.rd⟩
end
/-- the four cells of a copied signal tile -/
def TiV (T Tb Tf : Nat) (w : World) (lo : Nat) (v0 v1 v2 v3 : Value) (e : Sti) : Prop := v0 = .string e.name ∧ VOw T 1 RInt w lo v1 e.sides ∧ VOw Tb 1 RBool w lo v2 e.on ∧ VOw Tf 2 RFi w lo v3 e.fires
section
variable {T Tb Tf : Nat} {w w' : World} {lo : Nat} {v0 v1 v2 v3 : Value} {e : Sti}
theorem TiV.below (h : TiV T Tb Tf w lo v0 v1 v2 v3 e) (hb : Below w.heap.size w w') : TiV T Tb Tf w' lo v0 v1 v2 v3 e := ⟨h.1, h.2.1.below RInt.stable hb, h.2.2.1.below RBool.stable hb, h.2.2.2.below RFi.stable hb⟩
theorem TiV.set (h : TiV T Tb Tf w lo v0 v1 v2 v3 e) {p : Addr} (hp : p.block < lo) (u : Value) : TiV T Tb Tf (w.setCell p u) lo v0 v1 v2 v3 e := ⟨h.1, h.2.1.set (RInt.stableAt _) hp u, h.2.2.1.set (RBool.stableAt _) hp u, h.2.2.2.set (RFi.stableAt _) hp u⟩
theorem TiV.keep (h : TiV T Tb Tf w lo v0 v1 v2 v3 e) (hk : ∀ k, lo ≤ k → k < w.heap.size → w'.heap[k]? = w.heap[k]?) : TiV T Tb Tf w' lo v0 v1 v2 v3 e := ⟨h.1, h.2.1.keep (RInt.stableAt _) hk, h.2.2.1.keep (RBool.stableAt _) hk, h.2.2.2.keep (RFi.stableAt _) hk⟩
theorem TiV.weaken (h : TiV T Tb Tf w lo v0 v1 v2 v3 e) {lo' : Nat} (hl : lo' ≤ lo) : TiV T Tb Tf w lo' v0 v1 v2 v3 e := ⟨h.1, h.2.1.weaken hl, h.2.2.1.weaken hl, h.2.2.2.weaken hl⟩
end
/-- the six cells of a copied signal cell -/
def ScV (Tb : Nat) (w : World) (lo : Nat) (v0 v1 v2 v3 v4 v5 : Value) (e : Sc) : Prop := v0 = .int .i64 e.x ∧ v1 = .int .i64 e.y ∧ v2 = .int .i64 e.t ∧ VOw Tb 1 RBool w lo v3 e.on ∧ VOw Tb 1 RBool w lo v4 e.bound ∧ VOw Tb 1 RBool w lo v5 e.fired
section
variable {Tb : Nat} {w w' : World} {lo : Nat} {v0 v1 v2 v3 v4 v5 : Value} {e : Sc}
theorem ScV.below (h : ScV Tb w lo v0 v1 v2 v3 v4 v5 e) (hb : Below w.heap.size w w') : ScV Tb w' lo v0 v1 v2 v3 v4 v5 e := ⟨h.1, h.2.1, h.2.2.1, h.2.2.2.1.below RBool.stable hb, h.2.2.2.2.1.below RBool.stable hb, h.2.2.2.2.2.below RBool.stable hb⟩
theorem ScV.set (h : ScV Tb w lo v0 v1 v2 v3 v4 v5 e) {p : Addr} (hp : p.block < lo) (u : Value) : ScV Tb (w.setCell p u) lo v0 v1 v2 v3 v4 v5 e := ⟨h.1, h.2.1, h.2.2.1, h.2.2.2.1.set (RBool.stableAt _) hp u, h.2.2.2.2.1.set (RBool.stableAt _) hp u, h.2.2.2.2.2.set (RBool.stableAt _) hp u⟩
theorem ScV.weaken (h : ScV Tb w lo v0 v1 v2 v3 v4 v5 e) {lo' : Nat} (hl : lo' ≤ lo) : ScV Tb w lo' v0 v1 v2 v3 v4 v5 e := ⟨h.1, h.2.1, h.2.2.1, h.2.2.2.1.weaken hl, h.2.2.2.2.1.weaken hl, h.2.2.2.2.2.weaken hl⟩
end
end Go.Proofs.Ytbipnnjkddffbaa
/- Walks: the fires of a signal tile, by the program. -/




namespace Go.Proofs.Ytbipnnjkddffbaa
open Go.RowKit
attribute [local go_sem] BelowBy.cell BelowBy.cell_drew stillUpon givesUpon

/-- the glue on a side -/
def sideAt (s : List Int) (d : Int) : Int := (s[d.toNat]?).getD 0
/-- a fire is right at a tile with these sides -/
def fireOk (s : List Int) (f : Fi) : Bool := inB f.f 0 3 && (inB f.t 0 3 && (decide (f.f ≠ f.t) && (decide (sideAt s f.f ≠ 0) && decide (sideAt s f.t ≠ 0))))
theorem isDir_at {d : Int} {v : Bool} {w : World} (h : inB d 0 3 = v) : Calls Try.prog 125 #[.int .i64 d] w fun e w' => e = .returned (.bool v) ∧ w = w' := by
  subst h
  go_enter Try.func125, Try.ntmps125
  go_wp2_with (go_at_call 116; refine (within_any _ _ _ _).mono ?_; rintro e _ ⟨rfl, rfl⟩)
  go_ret
  exact ⟨rfl, rfl⟩
theorem signalsOk1_any (p : Nat) (A : Option Addr) (c : Nat) (sd : List Int) (f : Fi) (w : World) (lp : p < w.heap.size) (c1 : w.cell? ⟨p, 1, none⟩ = some (.slice A 4 c)) (hs : RdSl 1 RInt w A 4 sd) :
    Calls Try.prog 124 #[.agg #[.int .i64 f.f, .int .i64 f.t], .pointer (some ⟨p, 0, none⟩)] w fun e w' => e = .returned (.bool (!fireOk sd f)) ∧ Below w.heap.size w w' := by
  cases h1 : inB f.f 0 3
  · have e1 : fireOk sd f = false := by unfold fireOk; rw [h1]; rfl
    have h1H := Lib.hid h1
    clear h1
    rw [e1]
    go_enter Try.func124, Try.ntmps124
    go_wp2_with (go_at_call 125; refine (isDir_at h1H.out).mono ?_; rintro e _ ⟨rfl, rfl⟩)
    go_ret
    exact ⟨rfl, by exact bel_⟩
  cases h2 : inB f.t 0 3
  · have e1 : fireOk sd f = false := by unfold fireOk; rw [h2]; simp
    have h1H := Lib.hid h1
    have h2H := Lib.hid h2
    clear h1 h2
    rw [e1]
    go_enter Try.func124, Try.ntmps124
    go_wp2_with (go_at_call 125; refine (isDir_at (by first | exact h1H.out | exact h2H.out)).mono ?_; rintro e _ ⟨rfl, rfl⟩)
    go_ret
    exact ⟨rfl, by exact bel_⟩
  obtain ⟨a, b⟩ := f
  obtain ⟨i, rfl, hi⟩ : ∃ i : Nat, a = i ∧ i < 4 := ⟨a.toNat, by have := inB_true.1 h1; simp at this; omega, by have := inB_true.1 h1; simp at this; omega⟩
  obtain ⟨j, rfl, hj⟩ : ∃ j : Nat, b = j ∧ j < 4 := ⟨b.toNat, by have := inB_true.1 h2; simp at this; omega, by have := inB_true.1 h2; simp at this; omega⟩
  obtain ⟨b0, o0, rfl, hb0, hc⟩ := hs.ptr (by omega)
  obtain ⟨v, hv⟩ := hs.get (k := i) (by omega)
  obtain ⟨u, hu⟩ := hs.get (k := j) (by omega)
  have x1 := hc i v hv
  have x2 := hc j u hu
  unfold RInt at x1 x2
  simp only [Nat.mul_one] at x1 x2
  have sv : sideAt sd i = v := by unfold sideAt; simp [hv]
  have su : sideAt sd j = u := by unfold sideAt; simp [hu]
  have ef : fireOk sd ⟨i, j⟩ = (decide ((i : Int) ≠ j) && (decide (v ≠ 0) && decide (u ≠ 0))) := by
    unfold fireOk; rw [h1, h2, sv, su]; simp
  have h1H := Lib.hid h1
  have h2H := Lib.hid h2
  clear h1 h2 sv su hc hv hu hs
  rw [ef]
  clear ef
  by_cases hij : i = j
  · subst hij
    simp only [ne_eq, not_true_eq_false, decide_false, Bool.false_and]
    go_enter Try.func124, Try.ntmps124
    go_wp2_with (go_at_call 125; refine (isDir_at (by first | exact h1H.out | exact h2H.out)).mono ?_; rintro e _ ⟨rfl, rfl⟩)
    go_ret
    exact ⟨rfl, by exact bel_⟩
  have hij2 : ((i : Int) == (j : Int)) = false := by simp; omega
  have hij3 : decide ((i : Int) ≠ (j : Int)) = true := by simp; omega
  rw [hij3]
  clear hij3
  by_cases hv0 : v = 0
  · subst hv0
    simp only [ne_eq, not_true_eq_false, decide_false, Bool.false_and, Bool.and_false]
    go_enter Try.func124, Try.ntmps124
    go_wp2_with (go_at_call 125; refine (isDir_at (by first | exact h1H.out | exact h2H.out)).mono ?_; rintro e _ ⟨rfl, rfl⟩)
    go_ret
    exact ⟨rfl, by exact bel_⟩
  have hv2 : (v == 0) = false := by simp; omega
  have hv3 : decide (v ≠ 0) = true := by simp; omega
  rw [hv3]
  clear hv3
  by_cases hu0 : u = 0
  · subst hu0
    simp only [ne_eq, not_true_eq_false, decide_false, Bool.false_and, Bool.and_false]
    go_enter Try.func124, Try.ntmps124
    go_wp2_with (go_at_call 125; refine (isDir_at (by first | exact h1H.out | exact h2H.out)).mono ?_; rintro e _ ⟨rfl, rfl⟩)
    go_ret
    exact ⟨rfl, by exact bel_⟩
  have hu2 : (u == 0) = false := by simp; omega
  have hu3 : decide (u ≠ 0) = true := by simp; omega
  rw [hu3]
  clear hu3
  go_enter Try.func124, Try.ntmps124
  go_wp2_with (go_at_call 125; refine (isDir_at (by first | exact h1H.out | exact h2H.out)).mono ?_; rintro e _ ⟨rfl, rfl⟩)
  go_ret
  exact ⟨rfl, by exact bel_⟩
end Go.Proofs.Ytbipnnjkddffbaa
/- Walks: slices.IndexFunc and ContainsFunc at the fires of a signal tile. -/

namespace Go.Proofs.Ytbipnnjkddffbaa
open Go.RowKit
attribute [local go_sem] BelowBy.cell BelowBy.cell_drew stillUpon givesUpon

/-- the test of fire j -/
def okFi (sd : List Int) (fs : List Fi) (j : Nat) : Bool := match fs[j]? with
  | some f => fireOk sd f
  | none => true
def FirstS (w : World) (n : Nat) (ok : Nat → Bool) (e : Ending) (w' : World) : Prop := ∃ r : Int, e = .returned (.int .i64 r) ∧ decide (0 ≤ r) = (!allB n ok) ∧ Below w.heap.size w w'
theorem IndexFuncFi_any (p : Nat) (A B : Option Addr) (c n d : Nat) (sd : List Int) (fs : List Fi) (w : World) (lp : p < w.heap.size) (c1 : w.cell? ⟨p, 1, none⟩ = some (.slice A 4 c)) (hs : RdSl 1 RInt w A 4 sd) (hx : RdSl 2 RFi w B n fs) (hn : n ≤ 9223372036854775807) :
    Calls Try.prog 152 #[.slice B n d, .func (.func 124) #[] #[.pointer (some ⟨p, 0, none⟩)]] w (FirstS w n (okFi sd fs)) := by
  have hsH := Lib.hid hs
  have hxH := Lib.hid hx
  clear hs hx
  go_enter Try.func152, Try.ntmps152
  go_wp2
  go_loopg [8] n (fun r x wr => ∃ k : Nat, k + r = n ∧ x = .int .i64 k ∧ (∀ j, j < k → okFi sd fs j = true) ∧ Below w.heap.size w wr)
  case atStart => exact ⟨0, by omega, rfl, fun j hj => by omega, Below.refl _ _⟩
  case round =>
    obtain ⟨k, hk, rfl, hok, hbw⟩ := hrel
    have hok := Lib.hid hok
    have hx1 := hxH.out.below RFi.stable hbw
    have hs1 := Lib.hid (hsH.out.below RInt.stable hbw)
    have d1 := (hbw.cell (p := ⟨p, 1, none⟩) lp).trans c1
    have lp1 : p < wr.heap.size := Nat.lt_of_lt_of_le lp hbw.size
    by_cases hkn : k < n
    · obtain ⟨b, o, rfl, hb, hc⟩ := hx1.ptr (by omega)
      obtain ⟨v, hv⟩ := hx1.get hkn
      obtain ⟨c0, c0b⟩ := hc k v hv
      have HS : okFi sd fs k = fireOk sd v := by unfold okFi; rw [hv]
      have HS := Lib.hid HS
      clear hc hv hx1
      cases hv4 : fireOk sd v
      · go_wp2_with (go_at_call 124; refine (signalsOk1_any p A c sd v _ lp1 d1 hs1.out).mono ?_; rw [hv4]; rintro e w1 ⟨rfl, hb1⟩)
        go_ret
        exact ⟨_, rfl, by rw [allB_false hkn (by rw [HS.out, hv4])]; simp, bl_tr hbw hb1⟩
      · go_wp2_with (go_at_call 124; refine (signalsOk1_any p A c sd v _ lp1 d1 hs1.out).mono ?_; rw [hv4]; rintro e w1 ⟨rfl, hb1⟩)
        go_roundg (n - (k + 1))
        case measure => omega
        case rel => exact ⟨k + 1, by omega, by go_num, fun j hj => (by rcases Nat.lt_succ_iff_lt_or_eq.1 hj with hj | rfl; exact hok.out j hj; rw [HS.out, hv4]), bl_tr hbw hb1⟩
    · obtain rfl : k = n := by omega
      go_wp2
      go_ret
      exact ⟨_, rfl, by rw [allB_true hok.out]; simp, hbw⟩
theorem ContainsFuncFi_any (p : Nat) (A B : Option Addr) (c n d : Nat) (sd : List Int) (fs : List Fi) (w : World) (lp : p < w.heap.size) (c1 : w.cell? ⟨p, 1, none⟩ = some (.slice A 4 c)) (hs : RdSl 1 RInt w A 4 sd) (hx : RdSl 2 RFi w B n fs) (hn : n ≤ 9223372036854775807) :
    Calls Try.prog 123 #[.slice B n d, .func (.func 124) #[] #[.pointer (some ⟨p, 0, none⟩)]] w fun e w' => e = .returned (.bool (!allB n (okFi sd fs))) ∧ Below w.heap.size w w' := by
  go_enter Try.func123, Try.ntmps123
  go_wp2_with (go_at_call 152; refine (IndexFuncFi_any p A B c n d sd fs _ lp c1 hs hx hn).mono ?_; rintro e w1 ⟨r, rfl, hr, hb1⟩)
  go_ret
  exact ⟨rfl, hb1⟩
end Go.Proofs.Ytbipnnjkddffbaa
/- Walks: a signal tile's check, and slices.ContainsFunc at signal tiles. -/

namespace Go.Proofs.Ytbipnnjkddffbaa
open Go.RowKit
attribute [local go_sem] BelowBy.cell BelowBy.cell_drew stillUpon givesUpon

/-- a bool of a list -/
def onAt (l : List Bool) (d : Int) : Bool := (l[d.toNat]?).getD false
theorem onAt_eq {l : List Bool} {k : Nat} {v : Bool} (h : l[k]? = some v) : onAt l (k : Int) = v := by unfold onAt; simp [h]
theorem sideAt_eq {l : List Int} {k : Nat} {v : Int} (h : l[k]? = some v) : sideAt l (k : Int) = v := by unfold sideAt; simp [h]
/-- a side that is on bears a glue -/
def okOn (e : Sti) (d : Nat) : Bool := !(onAt e.on d && decide (sideAt e.sides d = 0))
theorem okOn_f {e : Sti} {d : Nat} (h : e.on[d]? = some false) : okOn e d = true := by unfold okOn; rw [onAt_eq h]; rfl
theorem okOn_t {e : Sti} {d : Nat} {v : Int} (h : e.on[d]? = some true) (hv : e.sides[d]? = some v) : okOn e d = !decide (v = 0) := by unfold okOn; rw [onAt_eq h, sideAt_eq hv]; rfl
def okSt (e : Sti) : Bool := decide (e.on.length = 4) && (decide (e.fires.length ≤ 6) && (allB 4 (okOn e) && allB e.fires.length (okFi e.sides e.fires)))
theorem okSt_on {e : Sti} (h : ¬ e.on.length = 4) : okSt e = false := by unfold okSt; rw [decide_eq_false h]; rfl
theorem okSt_fi {e : Sti} (h : ¬ e.fires.length ≤ 6) : okSt e = false := by unfold okSt; rw [decide_eq_false h]; simp
theorem okSt_side {e : Sti} {d : Nat} (hd : d < 4) (h : okOn e d = false) : okSt e = false := by unfold okSt; rw [allB_false hd h]; simp
theorem okSt_fires {e : Sti} {b : Bool} (h1 : e.on.length = 4) (h2 : e.fires.length ≤ 6) (h : ∀ j, j < 4 → okOn e j = true) (h3 : allB e.fires.length (okFi e.sides e.fires) = b) : okSt e = b := by
  unfold okSt; rw [allB_true h, decide_eq_true h1, decide_eq_true h2, h3]; simp
set_option maxHeartbeats 2000000 in
theorem signalsOk_any (SA OA FA : Option Addr) (sc on oc fn fc : Nat) (e : Sti) (w : World) (hS : RdSl 1 RInt w SA 4 e.sides) (hO : RdSl 1 RBool w OA on e.on) (hF : RdSl 2 RFi w FA fn e.fires) (hon : on ≤ 1073741824) (hfn : fn ≤ 1073741824) :
    Calls Try.prog 72 #[.agg #[.string e.name, .slice SA 4 sc, .slice OA on oc, .slice FA fn fc]] w fun e' w' => e' = .returned (.bool (okSt e)) ∧ Below w.heap.size w w' := by
  have hlo := Lib.hid hO.len
  have hlf := Lib.hid hF.len
  have hls := Lib.hid hS.len
  have hSH := Lib.hid hS
  have hOH := Lib.hid hO
  have hFH := Lib.hid hF
  clear hS hO hF
  by_cases h4 : on = 4
  rotate_left
  · have h4' : ((on : Int) != 4) = true := by simp; omega
    have hr := Lib.hid (okSt_on (e := e) (by rw [hlo.out]; exact h4))
    clear h4
    go_enter Try.func72, Try.ntmps72
    go_wp2
    go_ret
    exact ⟨ret_bool hr.out.symm, by exact bel_⟩
  subst h4
  by_cases h6 : fn ≤ 6
  rotate_left
  · have hr := Lib.hid (okSt_fi (e := e) (by rw [hlf.out]; exact h6))
    go_enter Try.func72, Try.ntmps72
    go_wp2
    go_ret
    exact ⟨ret_bool hr.out.symm, by exact bel_⟩
  go_enter Try.func72, Try.ntmps72
  go_wp2
  go_loopg [18] 4 (fun r x wr => ∃ k : Nat, k + r = 4 ∧ x = .int .i64 k ∧ Hid (∀ j, j < k → okOn e j = true) ∧ Below w.heap.size w wr ∧ wr.cell? ⟨w.heap.size, 1, none⟩ = some (.slice SA 4 sc) ∧ wr.cell? ⟨w.heap.size, 3, none⟩ = some (.slice FA fn fc) ∧ w.heap.size < wr.heap.size)
  case atStart => exact ⟨0, by omega, rfl, Lib.hid (fun j hj => by omega), by exact bel_, by go_simp, by go_simp, by simp⟩
  case round =>
    obtain ⟨k, hk, rfl, hok, hbw, x1, x3, hsz⟩ := hrel
    by_cases hk4 : k < 4
    · have hO1 := hOH.out.below RBool.stable hbw
      have hS1 := hSH.out.below RInt.stable hbw
      obtain ⟨bo, oo, rfl, hbo, hco⟩ := hO1.ptr (by omega)
      obtain ⟨bs, os, rfl, hbs, hcs⟩ := hS1.ptr (by omega)
      obtain ⟨v, hv⟩ := hO1.get hk4
      obtain ⟨u, hu⟩ := hS1.get hk4
      have cv := hco k v hv
      have cu := hcs k u hu
      unfold RBool at cv
      unfold RInt at cu
      simp only [Nat.mul_one] at cv cu
      have hkI : (k : Int) < 4 := by omega
      have hvH := Lib.hid hv
      have huH := Lib.hid hu
      clear hco hcs hO1 hS1 hv hu
      cases v
      · have hr := Lib.hid (okOn_f hvH.out)
        go_wp2
        go_roundg (4 - (k + 1))
        case measure => omega
        case rel => exact ⟨k + 1, by omega, by go_num, Lib.hid fun j hj => (by rcases Nat.lt_succ_iff_lt_or_eq.1 hj with hj | rfl; exact hok.out j hj; exact hr.out), by exact bel_, by go_simp, by go_simp, by exact bel_⟩
      · by_cases hu0 : u = 0
        · subst hu0
          have hr := Lib.hid (okSt_side (e := e) hk4 (by rw [okOn_t hvH.out huH.out]; rfl))
          go_wp2
          go_ret
          exact ⟨ret_bool hr.out.symm, by exact bel_⟩
        · have hu2 : (u == 0) = false := by simp; omega
          have hr := Lib.hid (show okOn e k = true by rw [okOn_t hvH.out huH.out, decide_eq_false hu0]; rfl)
          clear hu0
          go_wp2
          go_roundg (4 - (k + 1))
          case measure => omega
          case rel => exact ⟨k + 1, by omega, by go_num, Lib.hid fun j hj => (by rcases Nat.lt_succ_iff_lt_or_eq.1 hj with hj | rfl; exact hok.out j hj; exact hr.out), by exact bel_, by go_simp, by go_simp, by exact bel_⟩
    · obtain rfl : k = 4 := by omega
      have hF1 := Lib.hid (hFH.out.below RFi.stable hbw)
      have hS1 := Lib.hid (hSH.out.below RInt.stable hbw)
      go_wp2_with (go_at_call 123; refine (ContainsFuncFi_any w.heap.size SA FA sc fn fc e.sides e.fires _ hsz x1 hS1.out hF1.out (by omega)).mono ?_; rintro e' w1 ⟨rfl, hb1⟩)
      go_ret
      refine ⟨ret_bool ?_, by exact bel_⟩
      rw [← hlf.out]
      exact (okSt_fires hlo.out (by rw [hlf.out]; exact h6) hok.out rfl).symm
theorem ValidSignalSet1_any (SA OA FA : Option Addr) (sc on oc fn fc : Nat) (e : Sti) (w : World) (hS : RdSl 1 RInt w SA 4 e.sides) (hO : RdSl 1 RBool w OA on e.on) (hF : RdSl 2 RFi w FA fn e.fires) (hon : on ≤ 1073741824) (hfn : fn ≤ 1073741824) :
    Calls Try.prog 71 #[.agg #[.string e.name, .slice SA 4 sc, .slice OA on oc, .slice FA fn fc]] w fun e' w' => e' = .returned (.bool (!okSt e)) ∧ Below w.heap.size w w' := by
  have hSH := Lib.hid hS
  have hOH := Lib.hid hO
  have hFH := Lib.hid hF
  clear hS hO hF
  go_enter Try.func71, Try.ntmps71
  go_wp2_with (go_at_call 72; refine (signalsOk_any SA OA FA sc on oc fn fc e _ (hSH.out.below RInt.stable (by exact bel_)) (hOH.out.below RBool.stable (by exact bel_)) (hFH.out.below RFi.stable (by exact bel_)) hon hfn).mono ?_; rintro e w1 ⟨rfl, hb1⟩; obtain ⟨chb1, fhb1, shb1, thb1⟩ := bcell hb1)
  go_ret
  exact ⟨rfl, by exact bel_⟩
/-- the test of tile j -/
def okStJ (ts : List Sti) (j : Nat) : Bool := match ts[j]? with
  | some e => okSt e
  | none => true
theorem okStJ_eq {ts : List Sti} {j : Nat} {e : Sti} (h : ts[j]? = some e) : okStJ ts j = okSt e := by unfold okStJ; rw [h]
/-- what the copies of signal tiles say of their rows' lengths -/
def SmSt (ts : List Sti) : Prop := ∀ (k : Nat) (e : Sti), ts[k]? = some e → e.sides.length = 4 ∧ e.on.length ≤ 1073741824 ∧ e.fires.length ≤ 1073741824
set_option maxHeartbeats 2000000 in
theorem IndexFuncSt_any (T : Option Addr) (n d : Nat) (ts : List Sti) (w : World) (hT : RdSl 4 RSti w T n ts) (hn : n ≤ 1073741824) (hts : SmSt ts) :
    Calls Try.prog 122 #[.slice T n d, .func (.func 71) #[] #[]] w (FirstS w n (okStJ ts)) := by
  have hTH := Lib.hid hT
  have htsH := Lib.hid hts
  clear hT hts
  go_enter Try.func122, Try.ntmps122
  go_wp2
  go_loopg [8] n (fun r x wr => ∃ k : Nat, k + r = n ∧ x = .int .i64 k ∧ Hid (∀ j, j < k → okStJ ts j = true) ∧ Below w.heap.size w wr)
  case atStart => exact ⟨0, by omega, rfl, Lib.hid (fun j hj => by omega), Below.refl _ _⟩
  case round =>
    obtain ⟨k, hk, rfl, hok, hbw⟩ := hrel
    have hT1 := hTH.out.below RSti.stable hbw
    by_cases hkn : k < n
    · obtain ⟨b, o, rfl, hb, hc⟩ := hT1.ptr (by omega)
      obtain ⟨e, he⟩ := hT1.get hkn
      obtain ⟨c0, ⟨SA, sn, sc, c1, hS⟩, ⟨OA, on, oc, c2, hO⟩, ⟨FA, fn, fc, c3, hF⟩⟩ := hc k e he
      obtain ⟨l1, l2, l3⟩ := htsH.out k e he
      rw [hS.len] at l1
      rw [hO.len] at l2
      rw [hF.len] at l3
      subst l1
      have HS := Lib.hid (okStJ_eq he)
      have hSH := Lib.hid hS
      have hOH := Lib.hid hO
      have hFH := Lib.hid hF
      clear hc he hT1 hS hO hF
      cases hv4 : okSt e
      · have hv4H := Lib.hid hv4
        clear hv4
        go_wp2_with (go_at_call 71; refine (ValidSignalSet1_any SA OA FA sc on oc fn fc e _ hSH.out hOH.out hFH.out l2 l3).mono ?_; rw [hv4H.out]; rintro e' w1 ⟨rfl, hb1⟩)
        go_ret
        exact ⟨_, rfl, by rw [allB_false hkn (by rw [HS.out, hv4H.out])]; simp, bl_tr hbw hb1⟩
      · have hv4H := Lib.hid hv4
        clear hv4
        go_wp2_with (go_at_call 71; refine (ValidSignalSet1_any SA OA FA sc on oc fn fc e _ hSH.out hOH.out hFH.out l2 l3).mono ?_; rw [hv4H.out]; rintro e' w1 ⟨rfl, hb1⟩)
        go_roundg (n - (k + 1))
        case measure => omega
        case rel => exact ⟨k + 1, by omega, by go_num, Lib.hid fun j hj => (by rcases Nat.lt_succ_iff_lt_or_eq.1 hj with hj | rfl; exact hok.out j hj; rw [HS.out, hv4H.out]), bl_tr hbw hb1⟩
    · obtain rfl : k = n := by omega
      go_wp2
      go_ret
      exact ⟨_, rfl, by rw [allB_true hok.out]; simp, hbw⟩
theorem ContainsFuncSt_any (T : Option Addr) (n d : Nat) (ts : List Sti) (w : World) (hT : RdSl 4 RSti w T n ts) (hn : n ≤ 1073741824) (hts : SmSt ts) :
    Calls Try.prog 70 #[.slice T n d, .func (.func 71) #[] #[]] w fun e w' => e = .returned (.bool (!allB n (okStJ ts))) ∧ Below w.heap.size w w' := by
  have hTH := Lib.hid hT
  have htsH := Lib.hid hts
  clear hT hts
  go_enter Try.func70, Try.ntmps70
  go_wp2_with (go_at_call 122; refine (IndexFuncSt_any T n d ts _ hTH.out hn htsH.out).mono ?_; rintro e w1 ⟨r, rfl, hr, hb1⟩)
  go_ret
  exact ⟨rfl, hb1⟩
end Go.Proofs.Ytbipnnjkddffbaa
/- Walks: the harness' copies of signal sets and cells (printed by gen_sg.py). -/


namespace Go.Proofs.Ytbipnnjkddffbaa
open Go.RowKit
attribute [local go_sem] BelowBy.cell BelowBy.cell_drew stillUpon givesUpon
theorem infoB : (Try.prog.info? 4).map (fun i => (i.zero, i.size, i.bytes)) = some (some (.bool false), 1, 1) := by kernel_rfl
theorem infoFi : (Try.prog.info? 141).map (fun i => (i.zero, i.size, i.bytes)) = some (some (.agg #[.int .i64 0, .int .i64 0]), 2, 16) := by kernel_rfl
theorem infoSti : (Try.prog.info? 127).map (fun i => (i.zero, i.size, i.bytes)) = some (some (.agg #[.string ByteArray.empty, .slice none 0 0, .slice none 0 0, .slice none 0 0]), 4, 88) := by kernel_rfl
theorem infoSc : (Try.prog.info? 76).map (fun i => (i.zero, i.size, i.bytes)) = some (some (.agg #[.int .i64 0, .int .i64 0, .int .i64 0, .slice none 0 0, .slice none 0 0, .slice none 0 0]), 6, 96) := by kernel_rfl
set_option maxHeartbeats 1000000 in
theorem toBoolS_any (A : Option Addr) (n c : Nat) (xs : List Bool) (w : World) (h : RdSl 1 RBool w A n xs) (hn : n ≤ 1073741824) :
    Calls Try.prog 67 #[.slice A n c] w (ResSl 4 1 RBool w n xs) := by
  have hmk := fun W => run_makeN (P := Try.prog) 67 4 _ 1 1 Try.underlying67 infoB n (by omega) (by omega) W
  go_enter Try.func67, Try.ntmps67
  go_wp2
  go_loopg [4] n (fun g i wr => ∃ (k : Nat) (f : Nat → Value), k + g = n ∧ i = .int .i64 k ∧ Below w.heap.size w wr ∧ w.heap.size < wr.heap.size ∧ wr.rowIs w.heap.size 4 n f ∧ (∀ j e, j < k → xs[j]? = some e → f j = .bool e))
  case atStart => exact ⟨0, _, by omega, rfl, bl_al (bl_refl _) _, by simp, by have := rowIs_make w #[.bool false] n 4; simpa [Value.cells] using this, fun j e hj => by omega⟩
  case round =>
    obtain ⟨k, f, hk, rfl, hbw, hsz, hrow, hf⟩ := hrel
    have r1 := h.below RBool.stable hbw
    by_cases hlt : k < n
    · obtain ⟨b, o, rfl, hb, hc⟩ := r1.ptr (by omega)
      obtain ⟨e, he⟩ := h.get hlt
      have HE := Lib.hid he
      have HF := Lib.hid hf
      have c1 := hc k e he
      unfold RBool at c1
      simp only [Nat.mul_one] at c1
      have hc0 := hrow.cell hlt
      have hf0 := hrow.frozen k
      clear hc he r1 hf
      go_wp2
      go_roundg (n - (k + 1))
      case measure => omega
      case rel => exact ⟨k + 1, _, by omega, by go_num, (by exact bel_), (by simp; omega), hrow.set k _, fun j e' hj he' => by
        have HF := HF.out
        rcases Nat.lt_succ_iff_lt_or_eq.1 hj with hj | rfl
        · have h3 := HF j e' hj he'
          rw [if_neg (by omega)]; exact h3
        · obtain rfl := Option.some.inj (HE.out.symm.trans he')
          rw [if_pos rfl]⟩
    · obtain rfl : k = n := by omega
      go_wp2
      go_ret
      refine ⟨_, rfl, ⟨h.len, _, f, rfl, Nat.le_refl _, by rw [Nat.mul_one]; exact hrow, fun j e he => ?_⟩, hbw⟩
      have hj : j < k := by rw [← h.len]; exact (List.getElem?_eq_some_iff.1 he).1
      have h3 := hf j e hj he
      rw [Nat.mul_one]
      exact (hrow.cell hj).trans (by rw [h3])
theorem toFire_any (x y : Int) (w : World) :
    Calls Try.prog 150 #[.agg #[.int .i64 x, .int .i64 y]] w fun e w' => e = .returned (.agg #[.int .i64 x, .int .i64 y]) ∧ Below w.heap.size w w' := by
  go_enter Try.func150, Try.ntmps150
  go_wp2
  refine bodyPost_ret (v := .agg #[.int .i64 x, .int .i64 y]) (by simp only [results, Try.results150]; go_simp) rfl ?_
  refine ⟨rfl, ?_⟩
  exact bel_
set_option maxHeartbeats 2000000 in
theorem toFireS_any (A : Option Addr) (n c : Nat) (xs : List Fi) (w : World) (h : RdSl 2 RFi w A n xs) (hn : n ≤ 1073741824) :
    Calls Try.prog 115 #[.slice A n c] w (ResSl 141 2 RFi w n xs) := by
  have hmk := fun W => run_makeN (P := Try.prog) 125 141 _ 2 16 Try.underlying125 infoFi n (by omega) (by omega) W
  go_enter Try.func115, Try.ntmps115
  go_wp2
  go_loopg [4] n (fun g i wr => ∃ (k : Nat) (f : Nat → Value), k + g = n ∧ i = .int .i64 k ∧ Below w.heap.size w wr ∧ w.heap.size < wr.heap.size ∧ wr.rowIs w.heap.size 141 (n * 2) f ∧ (∀ j e, j < k → xs[j]? = some e → f (j * 2) = .int .i64 e.f ∧ f (j * 2 + 1) = .int .i64 e.t))
  case atStart => exact ⟨0, _, by omega, rfl, bl_al (bl_refl _) _, by simp, rowIs_make _ _ _ _, fun j e hj => by omega⟩
  case round =>
    obtain ⟨k, f, hk, rfl, hbw, hsz, hrow, hf⟩ := hrel
    have r1 := h.below RFi.stable hbw
    by_cases hlt : k < n
    · obtain ⟨b, o, rfl, hb, hc⟩ := r1.ptr (by omega)
      obtain ⟨e, he⟩ := h.get hlt
      have HE := Lib.hid he
      have HF := Lib.hid hf
      obtain ⟨c1, c1b⟩ := hc k e he
      clear hc he r1 hf
      go_wp2_with (go_at_call 150; refine (toFire_any _ _ _).mono ?_; rintro e' w1 ⟨rfl, hb1⟩; have hrow1 := hrow.of_block (hb1.block _ hrow.lt); have hc0 := hrow1.cell (i := k * 2) (by omega); have hf0 := hrow1.frozen (k * 2); have hc1 := hrow1.cell (i := k * 2 + 1) (by omega); have hf1 := hrow1.frozen (k * 2 + 1))
      go_roundg (n - (k + 1))
      case measure => omega
      case rel => exact ⟨k + 1, _, by omega, by go_num, (by exact bel_), (by have := hb1.size; simp; omega), (hrow1.set (k * 2) _).set (k * 2 + 1) _, fun j e' hj he' => by
        have HF := HF.out
        rcases Nat.lt_succ_iff_lt_or_eq.1 hj with hj | rfl
        · have h3 := HF j e' hj he'
          rw [if_neg (by omega), if_neg (by omega), if_neg (by omega), if_neg (by omega)]; exact h3
        · obtain rfl := Option.some.inj (HE.out.symm.trans he')
          rw [if_neg (by omega), if_pos rfl, if_pos rfl]; exact ⟨rfl, rfl⟩⟩
    · obtain rfl : k = n := by omega
      go_wp2
      go_ret
      refine ⟨_, rfl, ⟨h.len, _, f, rfl, Nat.le_refl _, hrow, fun j e he => ?_⟩, hbw⟩
      have hj : j < k := by rw [← h.len]; exact (List.getElem?_eq_some_iff.1 he).1
      have h3 := hf j e hj he
      exact ⟨(hrow.cell (by omega)).trans (by rw [h3.1]), (hrow.cell (by omega)).trans (by rw [h3.2])⟩
def ResSti (Ti Tb Tf : Nat) (w : World) (x : Sti) (e : Ending) (w' : World) : Prop :=
  ∃ v1 v2 v3, e = .returned (.agg #[.string x.name, v1, v2, v3]) ∧ TiV Ti Tb Tf w' w.heap.size (.string x.name) v1 v2 v3 x ∧ Below w.heap.size w w'
set_option maxHeartbeats 2000000 in
theorem toSignalTile_any (A B C : Option Addr) (n c m d k ck : Nat) (x : Sti) (w : World) (h1 : RdSl 1 RInt w A n x.sides) (h2 : RdSl 1 RBool w B m x.on) (h3 : RdSl 2 RFi w C k x.fires) (hn : n ≤ 1073741824) (hm : m ≤ 1073741824) (hk : k ≤ 1073741824) :
    Calls Try.prog 65 #[.agg #[.string x.name, .slice A n c, .slice B m d, .slice C k ck]] w (ResSti 2 4 141 w x) := by
  
  go_enter Try.func65, Try.ntmps65
  go_wp2_with (go_at_call 114; refine (toInt64S_any _ _ _ x.sides _ (h1.below RInt.stable (by exact bel_)) hn).mono ?_; rintro e w1 ⟨A1, rfl, ohb1, hb1⟩; obtain ⟨chb1, fhb1, shb1, thb1⟩ := bcell hb1; (have b0 := shb1 (w.heap.size) (by go_simp)); (have b1 := shb1 (w.heap.size + 1) (by go_simp)); (have b2 := shb1 (w.heap.size + 1 + 1) (by go_simp)))
  go_wp2_with (go_at_call 67; refine (toBoolS_any _ _ _ x.on _ (h2.below RBool.stable (by exact bel_)) hm).mono ?_; rintro e w2 ⟨A2, rfl, ohb2, hb2⟩; obtain ⟨chb2, fhb2, shb2, thb2⟩ := bcell hb2; (have c0 := shb2 (w.heap.size) (by go_simp)); (have c1 := shb2 (w.heap.size + 1) (by go_simp)); (have c2 := shb2 (w.heap.size + 1 + 1) (by go_simp)))
  go_wp2_with (go_at_call 115; refine (toFireS_any _ _ _ x.fires _ (h3.below RFi.stable (by exact bel_)) hk).mono ?_; rintro e w3 ⟨A3, rfl, ohb3, hb3⟩; obtain ⟨chb3, fhb3, shb3, thb3⟩ := bcell hb3; (have d0 := shb3 (w.heap.size) (by go_simp)); (have d1 := shb3 (w.heap.size + 1) (by go_simp)); (have d2 := shb3 (w.heap.size + 1 + 1) (by go_simp)))
  refine bodyPost_ret (v := .agg #[.string x.name, .slice A1 n n, .slice A2 m m, .slice A3 k k]) (by simp only [results, Try.results65]; go_simp) rfl ?_
  have e1 : w.heap.size ≤ w1.heap.size := by omega
  have e2 : w.heap.size ≤ w2.heap.size := by omega
  refine ⟨_, _, _, rfl, ⟨rfl, ⟨A1, n, rfl, ((((((((((ohb1.set (RInt.stableAt _) ?_ _).below RInt.stable hb2).set (RInt.stableAt _) ?_ _).below RInt.stable hb3).set (RInt.stableAt _) ?_ _).set (RInt.stableAt _) ?_ _).set (RInt.stableAt _) ?_ _).set (RInt.stableAt _) ?_ _).set (RInt.stableAt _) ?_ _).weaken ?_)⟩, ⟨A2, m, rfl, ((((((((ohb2.set (RBool.stableAt _) ?_ _).below RBool.stable hb3).set (RBool.stableAt _) ?_ _).set (RBool.stableAt _) ?_ _).set (RBool.stableAt _) ?_ _).set (RBool.stableAt _) ?_ _).set (RBool.stableAt _) ?_ _).weaken ?_)⟩, ⟨A3, k, rfl, ((((((ohb3.set (RFi.stableAt _) ?_ _).set (RFi.stableAt _) ?_ _).set (RFi.stableAt _) ?_ _).set (RFi.stableAt _) ?_ _).set (RFi.stableAt _) ?_ _).weaken ?_)⟩⟩, ?_⟩
  all_goals exact bel_
/-- a signal tile whose rows are of a call's own making -/
def ROSti (Ti Tb Tf lo : Nat) (w : World) (b o : Nat) (e : Sti) : Prop := ∃ v0 v1 v2 v3, w.cell? ⟨b, o, none⟩ = some v0 ∧ w.cell? ⟨b, o + 1, none⟩ = some v1 ∧ w.cell? ⟨b, o + 2, none⟩ = some v2 ∧ w.cell? ⟨b, o + 3, none⟩ = some v3 ∧ TiV Ti Tb Tf w lo v0 v1 v2 v3 e
theorem ROSti.rd {Ti Tb Tf lo : Nat} {w : World} {b o : Nat} {e : Sti} (h : ROSti Ti Tb Tf lo w b o e) : RSti w b o e := by
  obtain ⟨v0, v1, v2, v3, c0, c1, c2, c3, rfl, h1, h2, h3⟩ := h
  exact ⟨c0, h1.slc c1, h2.slc c2, h3.slc c3⟩
theorem ROSti.stable (Ti Tb Tf lo : Nat) : Stable (ROSti Ti Tb Tf lo) := fun _ _ _ _ _ ⟨v0, v1, v2, v3, c0, c1, c2, c3, h⟩ hb hw =>
  ⟨v0, v1, v2, v3, (hw.cell (by exact hb)).trans c0, (hw.cell (by exact hb)).trans c1, (hw.cell (by exact hb)).trans c2, (hw.cell (by exact hb)).trans c3, h.below hw⟩
theorem ROSti.stableAt (Ti Tb Tf lo : Nat) : StableAt lo (ROSti Ti Tb Tf lo) := fun w _ b o _ ⟨v0, v1, v2, v3, c0, c1, c2, c3, h⟩ hlo hb hk =>
  ⟨v0, v1, v2, v3, (World.cell?_of_block (w := w) (a := ⟨b, o, none⟩) (hk b hlo hb)).trans c0, (World.cell?_of_block (w := w) (a := ⟨b, o + 1, none⟩) (hk b hlo hb)).trans c1, (World.cell?_of_block (w := w) (a := ⟨b, o + 2, none⟩) (hk b hlo hb)).trans c2, (World.cell?_of_block (w := w) (a := ⟨b, o + 3, none⟩) (hk b hlo hb)).trans c3, h.keep hk⟩
theorem OwSl.rdSti {T Ti Tb Tf lo lo' : Nat} {w : World} {A : Option Addr} {n : Nat} {xs : List Sti} (h : OwSl T 4 (ROSti Ti Tb Tf lo) w lo' A n xs) : RdSl 4 RSti w A n xs :=
  ⟨h.len, fun hn => by
    obtain ⟨b, o, hA, hb, hc⟩ := h.rd.cells hn
    exact ⟨b, o, hA, hb, fun k hk => (hc k hk).rd⟩⟩
set_option maxHeartbeats 2000000 in
theorem toSignalTileS_any (A : Option Addr) (n c : Nat) (xs : List Sti) (w : World) (h : RdSl 4 RSti w A n xs) (hn : n ≤ 1073741824) (hx : ∀ e ∈ xs, e.sides.length ≤ 1073741824 ∧ e.on.length ≤ 1073741824 ∧ e.fires.length ≤ 1073741824) :
    Calls Try.prog 29 #[.slice A n c] w (ResSl 127 4 (ROSti 2 4 141 w.heap.size) w n xs) := by
  
  have hmk := fun W => run_makeN (P := Try.prog) 31 127 _ 4 88 Try.underlying31 infoSti n (by omega) (by omega) W
  go_enter Try.func29, Try.ntmps29
  go_wp2
  go_loopg [4] n (fun g i wr => ∃ (k : Nat) (f : Nat → Value), k + g = n ∧ i = .int .i64 k ∧ Below w.heap.size w wr ∧ w.heap.size < wr.heap.size ∧ wr.rowIs w.heap.size 127 (n * 4) f ∧
    (∀ j e, j < k → xs[j]? = some e → TiV 2 4 141 wr (w.heap.size + 1) (f (j * 4)) (f (j * 4 + 1)) (f (j * 4 + 2)) (f (j * 4 + 3)) e))
  case atStart => exact ⟨0, _, by omega, rfl, bl_al (bl_refl _) _, by simp, rowIs_make _ _ _ _, fun j e hj => by omega⟩
  case round =>
    obtain ⟨k, f, hk, rfl, hbw, hsz, hrow, hf⟩ := hrel
    have r1 := h.below RSti.stable hbw
    by_cases hlt : k < n
    · obtain ⟨b, o, rfl, hb, hc⟩ := r1.ptr (by omega)
      obtain ⟨e, he⟩ := h.get hlt
      have HE := Lib.hid he
      have HF := Lib.hid hf
      obtain ⟨c1, ⟨A1, n1, d1, c1b, hs1⟩, ⟨A2, n2, d2, c2b, hs2⟩, ⟨A3, n3, d3, c3b, hs3⟩⟩ := hc k e he
      obtain ⟨l1, l2, l3⟩ := hx e (List.mem_of_getElem? he)
      have hm1 : n1 ≤ 1073741824 := by rw [← hs1.len]; exact l1
      have hm2 : n2 ≤ 1073741824 := by rw [← hs2.len]; exact l2
      have hm3 : n3 ≤ 1073741824 := by rw [← hs3.len]; exact l3
      have hs1H := Lib.hid hs1
      have hs2H := Lib.hid hs2
      have hs3H := Lib.hid hs3
      clear hc he r1 hf hs1 hs2 hs3 l1 l2 l3
      go_wp2_with (go_at_call 65; refine (toSignalTile_any _ _ _ _ _ _ _ _ _ e _ hs1H.out hs2H.out hs3H.out hm1 hm2 hm3).mono ?_; rintro e' w1 ⟨v1, v2, v3, rfl, htv, hb1⟩; have hrow1 := hrow.of_block (hb1.block _ hrow.lt); have hc0 := hrow1.cell (i := k * 4) (by omega); have hf0 := hrow1.frozen (k * 4); have hc1 := hrow1.cell (i := k * 4 + 1) (by omega); have hf1 := hrow1.frozen (k * 4 + 1); have hc2 := hrow1.cell (i := k * 4 + 2) (by omega); have hf2 := hrow1.frozen (k * 4 + 2); have hc3 := hrow1.cell (i := k * 4 + 3) (by omega); have hf3 := hrow1.frozen (k * 4 + 3); obtain ⟨_, ⟨B1, m1, rfl, o1⟩, ⟨B2, m2, rfl, o2⟩, ⟨B3, m3, rfl, o3⟩⟩ := htv; have htvH := Lib.hid (show TiV 2 4 141 w1 wr.heap.size (.string e.name) (.slice B1 m1 m1) (.slice B2 m2 m2) (.slice B3 m3 m3) e from ⟨rfl, ⟨B1, m1, rfl, o1⟩, ⟨B2, m2, rfl, o2⟩, ⟨B3, m3, rfl, o3⟩⟩); clear o1 o2 o3)
      go_roundg (n - (k + 1))
      case measure => omega
      case rel => exact ⟨k + 1, _, by omega, by go_num, (by exact bel_), (by have := hb1.size; simp; omega), (((hrow1.set (k * 4) _).set (k * 4 + 1) _).set (k * 4 + 2) _).set (k * 4 + 3) _, fun j e' hj he' => by
        have HF := HF.out
        rcases Nat.lt_succ_iff_lt_or_eq.1 hj with hj | rfl
        · have h3 := (HF j e' hj he').below hb1
          repeat rw [if_neg (by omega)]
          exact (((h3.set (Nat.lt_succ_self _) _).set (Nat.lt_succ_self _) _).set (Nat.lt_succ_self _) _).set (Nat.lt_succ_self _) _
        · obtain rfl := Option.some.inj (HE.out.symm.trans he')
          have h3 := htvH.out.weaken (lo' := w.heap.size + 1) (by have := hsz; omega)
          rw [if_neg (by omega), if_neg (by omega), if_neg (by omega), if_pos rfl, if_neg (by omega), if_neg (by omega), if_pos rfl, if_neg (by omega), if_pos rfl, if_pos rfl]
          exact (((h3.set (Nat.lt_succ_self _) _).set (Nat.lt_succ_self _) _).set (Nat.lt_succ_self _) _).set (Nat.lt_succ_self _) _⟩
    · obtain rfl : k = n := by omega
      go_wp2
      go_ret
      refine ⟨_, rfl, ⟨h.len, _, f, rfl, Nat.le_refl _, hrow, fun j e he => ?_⟩, hbw⟩
      have hj : j < k := by rw [← h.len]; exact (List.getElem?_eq_some_iff.1 he).1
      exact ⟨_, _, _, _, hrow.cell (by omega), hrow.cell (by omega), hrow.cell (by omega), hrow.cell (by omega), (hf j e hj he).weaken (by omega)⟩
theorem toSignalSet_any (A B : Option Addr) (n c m d : Nat) (gs : List Gl) (ts : List Sti) (w : World) (h : RdSl 2 RGl w A n gs) (k : RdSl 4 RSti w B m ts) (hn : n ≤ 1073741824) (hm : m ≤ 1073741824) (hx : ∀ e ∈ ts, e.sides.length ≤ 1073741824 ∧ e.on.length ≤ 1073741824 ∧ e.fires.length ≤ 1073741824) :
    Calls Try.prog 8 #[.agg #[.slice A n c, .slice B m d]] w fun e w' => ∃ A' B', e = .returned (.agg #[.slice A' n n, .slice B' m m]) ∧ RdSl 2 RGl w' A' n gs ∧ RdSl 4 RSti w' B' m ts ∧ Below w.heap.size w w' := by
  
  go_enter Try.func8, Try.ntmps8
  go_wp2_with (go_at_call 28; refine (toGlueS_any _ _ _ gs _ (h.below RGl.stable (by exact bel_)) hn).mono ?_; rintro e w1 ⟨A', rfl, how, hb1⟩; obtain ⟨chb1, fhb1, shb1, thb1⟩ := bcell hb1; (have b0 := shb1 w.heap.size (by go_simp)); (have b1 := shb1 (w.heap.size + 1) (by go_simp)); (have b2 := shb1 (w.heap.size + 1 + 1) (by go_simp)))
  go_wp2_with (go_at_call 29; refine (toSignalTileS_any _ _ _ ts _ (k.below RSti.stable (by exact bel_)) hm hx).mono ?_; rintro e w2 ⟨B', rfl, how2, hb2⟩; obtain ⟨chb2, fhb2, shb2, thb2⟩ := bcell hb2; (have c0 := shb2 w.heap.size (by go_simp)); (have c1 := shb2 (w.heap.size + 1) (by go_simp)); (have c2 := shb2 (w.heap.size + 1 + 1) (by go_simp)))
  refine bodyPost_ret (v := .agg #[.slice A' n n, .slice B' m m]) (by simp only [results, Try.results8]; go_simp) rfl ?_
  have e1 : w.heap.size ≤ w1.heap.size := by omega
  refine ⟨A', B', rfl, (((((how.set (RGl.stableAt _) ?_ _).below RGl.stable hb2).set (RGl.stableAt _) ?_ _).set (RGl.stableAt _) ?_ _).set (RGl.stableAt _) ?_ _).rd, (((how2.set (ROSti.stableAt _ _ _ _) ?_ _).set (ROSti.stableAt _ _ _ _) ?_ _).set (ROSti.stableAt _ _ _ _) ?_ _).rdSti, ?_⟩
  all_goals exact bel_
def ResSc (Tb : Nat) (w : World) (x : Sc) (e : Ending) (w' : World) : Prop :=
  ∃ A1 n1 A2 n2 A3 n3, e = .returned (.agg #[.int .i64 x.x, .int .i64 x.y, .int .i64 x.t, .slice A1 n1 n1, .slice A2 n2 n2, .slice A3 n3 n3]) ∧ ScV Tb w' w.heap.size (.int .i64 x.x) (.int .i64 x.y) (.int .i64 x.t) (.slice A1 n1 n1) (.slice A2 n2 n2) (.slice A3 n3 n3) x ∧ Below w.heap.size w w'
set_option maxHeartbeats 2000000 in
theorem toSignalCell_any (A B C : Option Addr) (n c m d k ck : Nat) (x : Sc) (w : World) (h1 : RdSl 1 RBool w A n x.on) (h2 : RdSl 1 RBool w B m x.bound) (h3 : RdSl 1 RBool w C k x.fired) (hn : n ≤ 1073741824) (hm : m ≤ 1073741824) (hk : k ≤ 1073741824) :
    Calls Try.prog 30 #[.agg #[.int .i64 x.x, .int .i64 x.y, .int .i64 x.t, .slice A n c, .slice B m d, .slice C k ck]] w (ResSc 4 w x) := by
  
  go_enter Try.func30, Try.ntmps30
  go_wp2_with fail
  refine (toPoint_any _ _ _).mono ?_
  rintro e w0 ⟨rfl, hb0⟩
  obtain ⟨chb0, fhb0, shb0, thb0⟩ := bcell hb0; (have a0 := shb0 w.heap.size (by go_simp)); (have a1 := shb0 (w.heap.size + 1) (by go_simp)); (have a2 := shb0 (w.heap.size + 1 + 1) (by go_simp))
  go_wp2_with fail
  refine (toBoolS_any _ _ _ x.on _ (h1.below RBool.stable (by exact bel_)) hn).mono ?_; rintro e w1 ⟨A1, rfl, ohb1, hb1⟩; obtain ⟨chb1, fhb1, shb1, thb1⟩ := bcell hb1; (have b0 := shb1 (w.heap.size) (by go_simp)); (have b1 := shb1 (w.heap.size + 1) (by go_simp)); (have b2 := shb1 (w.heap.size + 1 + 1) (by go_simp))
  go_wp2_with fail
  refine (toBoolS_any _ _ _ x.bound _ (h2.below RBool.stable (by exact bel_)) hm).mono ?_; rintro e w2 ⟨A2, rfl, ohb2, hb2⟩; obtain ⟨chb2, fhb2, shb2, thb2⟩ := bcell hb2; (have c0 := shb2 (w.heap.size) (by go_simp)); (have c1 := shb2 (w.heap.size + 1) (by go_simp)); (have c2 := shb2 (w.heap.size + 1 + 1) (by go_simp))
  go_wp2_with fail
  refine (toBoolS_any _ _ _ x.fired _ (h3.below RBool.stable (by exact bel_)) hk).mono ?_; rintro e w3 ⟨A3, rfl, ohb3, hb3⟩; obtain ⟨chb3, fhb3, shb3, thb3⟩ := bcell hb3; (have d0 := shb3 (w.heap.size) (by go_simp)); (have d1 := shb3 (w.heap.size + 1) (by go_simp)); (have d2 := shb3 (w.heap.size + 1 + 1) (by go_simp))
  go_wp2_with fail
  refine bodyPost_ret (v := .agg #[.int .i64 x.x, .int .i64 x.y, .int .i64 x.t, .slice A1 n n, .slice A2 m m, .slice A3 k k]) (by simp only [results, Try.results30]; go_simp) rfl ?_
  have e1 : w.heap.size ≤ w1.heap.size := by omega
  have e2 : w.heap.size ≤ w2.heap.size := by omega
  refine ⟨_, _, _, _, _, _, rfl, ⟨rfl, rfl, rfl, ⟨A1, n, rfl, ((((((((((((ohb1).set (RBool.stableAt _) ?_ _).below RBool.stable hb2).set (RBool.stableAt _) ?_ _).below RBool.stable hb3).set (RBool.stableAt _) ?_ _).set (RBool.stableAt _) ?_ _).set (RBool.stableAt _) ?_ _).set (RBool.stableAt _) ?_ _).set (RBool.stableAt _) ?_ _).set (RBool.stableAt _) ?_ _).set (RBool.stableAt _) ?_ _).weaken ?_⟩, ⟨A2, m, rfl, ((((((((((ohb2).set (RBool.stableAt _) ?_ _).below RBool.stable hb3).set (RBool.stableAt _) ?_ _).set (RBool.stableAt _) ?_ _).set (RBool.stableAt _) ?_ _).set (RBool.stableAt _) ?_ _).set (RBool.stableAt _) ?_ _).set (RBool.stableAt _) ?_ _).set (RBool.stableAt _) ?_ _).weaken ?_⟩, ⟨A3, k, rfl, ((((((((ohb3).set (RBool.stableAt _) ?_ _).set (RBool.stableAt _) ?_ _).set (RBool.stableAt _) ?_ _).set (RBool.stableAt _) ?_ _).set (RBool.stableAt _) ?_ _).set (RBool.stableAt _) ?_ _).set (RBool.stableAt _) ?_ _).weaken ?_⟩⟩, ?_⟩
  all_goals exact bel_
set_option maxHeartbeats 4000000 in
theorem toSignalCellS_any (A : Option Addr) (n c : Nat) (xs : List Sc) (w : World) (h : RdSl 6 RSc w A n xs) (hn : n ≤ 1073741824) (hx : ∀ e ∈ xs, e.on.length ≤ 1073741824 ∧ e.bound.length ≤ 1073741824 ∧ e.fired.length ≤ 1073741824) :
    Calls Try.prog 9 #[.slice A n c] w fun e w' => ∃ B, e = .returned (.slice B n n) ∧ RdSl 6 RSc w' B n xs ∧ Below w.heap.size w w' := by
  
  have hmk := fun W => run_makeN (P := Try.prog) 35 76 _ 6 96 Try.underlying35 infoSc n (by omega) (by omega) W
  go_enter Try.func9, Try.ntmps9
  go_wp2
  go_loopg [4] n (fun g i wr => ∃ (k : Nat) (f : Nat → Value), k + g = n ∧ i = .int .i64 k ∧ Below w.heap.size w wr ∧ w.heap.size < wr.heap.size ∧ wr.rowIs w.heap.size 76 (n * 6) f ∧
    (∀ j e, j < k → xs[j]? = some e → ScV 4 wr (w.heap.size + 1) (f (j * 6)) (f (j * 6 + 1)) (f (j * 6 + 2)) (f (j * 6 + 3)) (f (j * 6 + 4)) (f (j * 6 + 5)) e))
  case atStart => exact ⟨0, _, by omega, rfl, bl_al (bl_refl _) _, by simp, rowIs_make _ _ _ _, fun j e hj => by omega⟩
  case round =>
    obtain ⟨k, f, hk, rfl, hbw, hsz, hrow, hf⟩ := hrel
    have r1 := h.below RSc.stable hbw
    by_cases hlt : k < n
    · obtain ⟨b, o, rfl, hb, hc⟩ := r1.ptr (by omega)
      obtain ⟨e, he⟩ := h.get hlt
      have HE := Lib.hid he
      have HF := Lib.hid hf
      obtain ⟨c0, c1, c2, ⟨A1, n1, d1, c1b, hs1⟩, ⟨A2, n2, d2, c2b, hs2⟩, ⟨A3, n3, d3, c3b, hs3⟩⟩ := hc k e he
      obtain ⟨l1, l2, l3⟩ := hx e (List.mem_of_getElem? he)
      have hm1 : n1 ≤ 1073741824 := by rw [← hs1.len]; exact l1
      have hm2 : n2 ≤ 1073741824 := by rw [← hs2.len]; exact l2
      have hm3 : n3 ≤ 1073741824 := by rw [← hs3.len]; exact l3
      have hs1H := Lib.hid hs1
      have hs2H := Lib.hid hs2
      have hs3H := Lib.hid hs3
      clear hc he r1 hf hs1 hs2 hs3 l1 l2 l3
      go_wp2_with (go_at_call 30; refine (toSignalCell_any _ _ _ _ _ _ _ _ _ e _ hs1H.out hs2H.out hs3H.out hm1 hm2 hm3).mono ?_; rintro e' w1 ⟨B1, m1, B2, m2, B3, m3, rfl, htv, hb1⟩; have hrow1 := hrow.of_block (hb1.block _ hrow.lt); have hc0 := hrow1.cell (i := k * 6) (by omega); have hf0 := hrow1.frozen (k * 6); have hc1 := hrow1.cell (i := k * 6 + 1) (by omega); have hf1 := hrow1.frozen (k * 6 + 1); have hc2 := hrow1.cell (i := k * 6 + 2) (by omega); have hf2 := hrow1.frozen (k * 6 + 2); have hc3 := hrow1.cell (i := k * 6 + 3) (by omega); have hf3 := hrow1.frozen (k * 6 + 3); have hc4 := hrow1.cell (i := k * 6 + 4) (by omega); have hf4 := hrow1.frozen (k * 6 + 4); have hc5 := hrow1.cell (i := k * 6 + 5) (by omega); have hf5 := hrow1.frozen (k * 6 + 5); have htvH := Lib.hid htv; clear htv)
      go_roundg (n - (k + 1))
      case measure => omega
      case rel => exact ⟨k + 1, _, by omega, by go_num, (by exact bel_), (by have := hb1.size; simp; omega), (((((hrow1.set (k * 6) _).set (k * 6 + 1) _).set (k * 6 + 2) _).set (k * 6 + 3) _).set (k * 6 + 4) _).set (k * 6 + 5) _, fun j e' hj he' => by
        have HF := HF.out
        rcases Nat.lt_succ_iff_lt_or_eq.1 hj with hj | rfl
        · have h3 := (HF j e' hj he').below hb1
          repeat rw [if_neg (by omega)]
          exact (((((h3.set (Nat.lt_succ_self _) _).set (Nat.lt_succ_self _) _).set (Nat.lt_succ_self _) _).set (Nat.lt_succ_self _) _).set (Nat.lt_succ_self _) _).set (Nat.lt_succ_self _) _
        · obtain rfl := Option.some.inj (HE.out.symm.trans he')
          have h3 := htvH.out.weaken (lo' := w.heap.size + 1) (by have := hsz; omega)
          rw [if_neg (by omega), if_neg (by omega), if_neg (by omega), if_neg (by omega), if_neg (by omega), if_pos rfl, if_neg (by omega), if_neg (by omega), if_neg (by omega), if_neg (by omega), if_pos rfl, if_neg (by omega), if_neg (by omega), if_neg (by omega), if_pos rfl, if_neg (by omega), if_neg (by omega), if_pos rfl, if_neg (by omega), if_pos rfl, if_pos rfl]
          exact (((((h3.set (Nat.lt_succ_self _) _).set (Nat.lt_succ_self _) _).set (Nat.lt_succ_self _) _).set (Nat.lt_succ_self _) _).set (Nat.lt_succ_self _) _).set (Nat.lt_succ_self _) _⟩
    · obtain rfl : k = n := by omega
      go_wp2
      go_ret
      refine ⟨_, rfl, ⟨h.len, fun _ => ⟨_, 0, rfl, hrow.lt, fun j hj => ?_⟩⟩, hbw⟩
      have hj2 : j < k := by rw [← h.len]; exact hj
      obtain ⟨h0, h1, h2, h3, h4, h5⟩ := hf j _ hj2 (List.getElem?_eq_getElem hj)
      rw [Nat.zero_add]
      exact ⟨(hrow.cell (by omega)).trans (by rw [h0]), (hrow.cell (by omega)).trans (by rw [h1]), (hrow.cell (by omega)).trans (by rw [h2]), h3.slc (hrow.cell (by omega)), h4.slc (hrow.cell (by omega)), h5.slc (hrow.cell (by omega))⟩
end Go.Proofs.Ytbipnnjkddffbaa
/- Walks: copies of glues and of numbers; a signal set without its signals; its check. -/







namespace Go.Proofs.Ytbipnnjkddffbaa
open Go.RowKit Go.Shelf
attribute [local go_sem] BelowBy.cell BelowBy.cell_drew stillUpon givesUpon

def OwnGls (w : World) (gs : List Gl) (e : Ending) (w' : World) : Prop := ∃ v, e = .returned v ∧ w'.ownsRow w.heap.size 123 2 v gs.length (flatC encGl gs) ∧ Below w.heap.size w w'
def OwnIs (w : World) (xs : List Int) (e : Ending) (w' : World) : Prop := ∃ v, e = .returned v ∧ w'.ownsRow w.heap.size 2 1 v xs.length (flatC encI xs) ∧ Below w.heap.size w w'
theorem nil_len {α : Type} {size : Nat} {R : World → Nat → Nat → α → Prop} {w : World} {n : Nat} {xs : List α} (h : RdSl size R w none n xs) : n = 0 ∧ xs = [] := by
  have h0 : n = 0 := by
    rcases Nat.eq_zero_or_pos n with h0 | h0
    · exact h0
    · obtain ⟨b, o, e, _⟩ := h.cells h0; cases e
  subst h0
  exact ⟨rfl, List.eq_nil_of_length_eq_zero h.len⟩
theorem glCells_of_rd {w : World} {b o : Nat} {xs : List Gl} (h : ∀ k e, xs[k]? = some e → RGl w b (o + k * 2) e) : ∀ j u, (flatC encGl xs)[j]? = some u → w.cell? ((⟨b, o, none⟩ : Addr).add j) = some u :=
  flatC_of_rd (by decide) encGl_len fun k e he j u hu => by
    obtain ⟨c0, c1⟩ := h k e he
    match j, hu with
    | 0, hu => simp [encGl] at hu; subst hu; exact c0
    | 1, hu => simp [encGl] at hu; subst hu; exact c1
    | j + 2, hu => simp [encGl] at hu
theorem iCells_of_rd {w : World} {b o : Nat} {xs : List Int} (h : ∀ k e, xs[k]? = some e → RInt w b (o + k * 1) e) : ∀ j u, (flatC encI xs)[j]? = some u → w.cell? ((⟨b, o, none⟩ : Addr).add j) = some u :=
  flatC_of_rd (by decide) encI_len fun k e he j u hu => by
    have c0 := h k e he
    match j, hu with
    | 0, hu => simp [encI] at hu; subst hu; exact c0
    | j + 1, hu => simp [encI] at hu
/-- the cells of a row that reads, behind one laying -/
theorem cl_of_gl {w : World} {ad : Addr} {n : Nat} {xs : List Gl} (h : RdSl 2 RGl w (some ad) n xs) : ∀ (ob : Obj) j u, (flatC encGl xs)[j]? = some u → (w.alloc ob).cell? (ad.add j) = some u := fun ob j u hj => by
  have hlt := (List.getElem?_eq_some_iff.1 hj).1
  have hl := h.len
  rw [flatC_len encGl_len] at hlt
  obtain ⟨b, o, e, hb, hc⟩ := h.ptr (by omega)
  injection e with e
  subst e
  refine Eq.trans (World.cell?_alloc_lt _ _ _ ?_) (glCells_of_rd hc j u hj)
  rw [Addr.add_lit]; exact hb
theorem cl_of_i {w : World} {ad : Addr} {n : Nat} {xs : List Int} (h : RdSl 1 RInt w (some ad) n xs) : ∀ (ob : Obj) j u, (flatC encI xs)[j]? = some u → (w.alloc ob).cell? (ad.add j) = some u := fun ob j u hj => by
  have hlt := (List.getElem?_eq_some_iff.1 hj).1
  have hl := h.len
  rw [flatC_len encI_len] at hlt
  obtain ⟨b, o, e, hb, hc⟩ := h.ptr (by omega)
  injection e with e
  subst e
  refine Eq.trans (World.cell?_alloc_lt _ _ _ ?_) (iCells_of_rd hc j u hj)
  rw [Addr.add_lit]; exact hb
set_option maxRecDepth 100000 in
set_option maxHeartbeats 1000000 in
theorem CloneGl_any (A : Option Addr) (n c : Nat) (bs : List Gl) (w : World) (h : RdSl 2 RGl w A n bs) (hn : n ≤ 1073741824) :
    Calls Try.prog 120 #[.slice A n c] w (OwnGls w bs) := by
  obtain ⟨i0, hi, hz0, hz1, hz2⟩ := info_parts infoGl
  have hl := h.len
  have hq := fun W => Lib.run_eql_slice_nil (P := Try.prog) W 30 123 A n c 0 0 Try.underlying30
  cases A with
  | none =>
    obtain ⟨rfl, rfl⟩ := nil_len h
    clear h
    go_enter Try.func120, Try.ntmps120
    go_wp2
    go_ret
    exact ⟨_, rfl, World.ownsRow_nil _ _ _ _, bl_refl _⟩
  | some ad =>
    have hclH := Lib.hid (cl_of_gl h)
    have hlH := Lib.hid hl
    have hlen := flatC_len encGl_len bs
    rw [hl] at hlen
    have hlenH := Lib.hid hlen
    clear h hl hlen
    go_enter Try.func120, Try.ntmps120
    go_wp2_with (at_builtin; go_loud (refine wpList_append_own _ rfl _ _ 30 rfl w.heap.size 123 i0 (.agg #[.string ByteArray.empty, .int .i64 0]) 2 24 Try.underlying30 hi hz0 hz1 hz2 rfl (by decide) _ 0 [] rfl (World.ownsRow_made _ _ _ (Nat.le_refl _) (by decide) rfl) ad n c (flatC encGl bs) rfl hlenH.out (fun j u hj => hclH.out _ j u hj) (flatC_one encGl_one bs) (by unfold maxLen; omega) (by omega) (by simp) ?_); intro v' w3 hown' hgrow _)
    go_ret
    refine ⟨_, rfl, ?_, ((Below.refl w.heap.size w).alloc (Nat.le_refl _) _).grown hgrow (by simp) (fun b' hb' => ?_)⟩
    · rw [hlH.out]
      simpa using hown'
    · have hb2 : some w.heap.size = some b' := hb'
      injection hb2 with hb3
      exact Nat.le_of_eq hb3
set_option maxRecDepth 100000 in
set_option maxHeartbeats 1000000 in
theorem CloneI_any (A : Option Addr) (n c : Nat) (bs : List Int) (w : World) (h : RdSl 1 RInt w A n bs) (hn : n ≤ 1073741824) :
    Calls Try.prog 121 #[.slice A n c] w (OwnIs w bs) := by
  obtain ⟨i0, hi, hz0, hz1, hz2⟩ := info_parts infoI
  have hl := h.len
  have hq := fun W => Lib.run_eql_slice_nil (P := Try.prog) W 52 2 A n c 0 0 Try.underlying52
  cases A with
  | none =>
    obtain ⟨rfl, rfl⟩ := nil_len h
    clear h
    go_enter Try.func121, Try.ntmps121
    go_wp2
    go_ret
    exact ⟨_, rfl, World.ownsRow_nil _ _ _ _, bl_refl _⟩
  | some ad =>
    have hclH := Lib.hid (cl_of_i h)
    have hlH := Lib.hid hl
    have hlen := flatC_len encI_len bs
    rw [hl] at hlen
    have hlenH := Lib.hid hlen
    clear h hl hlen
    go_enter Try.func121, Try.ntmps121
    go_wp2_with (at_builtin; go_loud (refine wpList_append_own _ rfl _ _ 52 rfl w.heap.size 2 i0 (.int .i64 0) 1 8 Try.underlying52 hi hz0 hz1 hz2 rfl (by decide) _ 0 [] rfl (World.ownsRow_made _ _ _ (Nat.le_refl _) (by decide) rfl) ad n c (flatC encI bs) rfl hlenH.out (fun j u hj => hclH.out _ j u hj) (flatC_one encI_one bs) (by unfold maxLen; omega) (by omega) (by simp) ?_); intro v' w3 hown' hgrow _)
    go_ret
    refine ⟨_, rfl, ?_, ((Below.refl w.heap.size w).alloc (Nat.le_refl _) _).grown hgrow (by simp) (fun b' hb' => ?_)⟩
    · rw [hlH.out]
      simpa using hown'
    · have hb2 : some w.heap.size = some b' := hb'
      injection hb2 with hb3
      exact Nat.le_of_eq hb3
def tiOf (e : Sti) : Ti := ⟨e.name, e.sides⟩
def tisOf (ts : List Sti) : List Ti := ts.map tiOf
theorem tisOf_len (ts : List Sti) : (tisOf ts).length = ts.length := by simp [tisOf]
theorem tisOf_get {ts : List Sti} {k : Nat} {e : Sti} (h : ts[k]? = some e) : (tisOf ts)[k]? = some (tiOf e) := by simp [tisOf, h]
theorem tisOf_inv {ts : List Sti} {k : Nat} {e : Ti} (h : (tisOf ts)[k]? = some e) : ∃ t, ts[k]? = some t ∧ e = tiOf t := by
  simp only [tisOf, List.getElem?_map, Option.map_eq_some_iff] at h
  obtain ⟨t, h1, h2⟩ := h
  exact ⟨t, h1, h2.symm⟩
theorem take_snoc {α : Type} {l : List α} {k : Nat} {e : α} (h : l[k]? = some e) : l.take (k + 1) = l.take k ++ [e] := by
  rw [List.take_add_one, h]; rfl
/-- a tile set of a call's own making, as a value -/
structure SetOwn (w : World) (lo : Nat) (v : Value) (gs : List Gl) (ts : List Ti) : Prop where
  out : ∃ vg vt us, v = .agg #[vg, vt] ∧ w.ownsRow lo 123 2 vg gs.length (flatC encGl gs) ∧ OwnT w lo 152 2 vt us ts
theorem SetOwn.rd {w : World} {lo : Nat} {v : Value} {gs : List Gl} {ts : List Ti} (h : SetOwn w lo v gs ts) : ∃ A n c B m d, v = .agg #[.slice A n c, .slice B m d] ∧ RdSl 2 RGl w A n gs ∧ RdSl 2 RTi w B m ts := by
  obtain ⟨vg, vt, us, rfl, hg, ht⟩ := h.out
  obtain ⟨A, c, rfl, hA⟩ := rdGl_of_flat hg
  obtain ⟨B, d, rfl, hB⟩ := ht.rd
  exact ⟨A, _, c, B, _, d, rfl, hA, hB⟩
def PlainRes (w : World) (gs : List Gl) (ts : List Sti) (e : Ending) (w' : World) : Prop := ∃ v, e = .returned v ∧ SetOwn w' w.heap.size v gs (tisOf ts) ∧ Below w.heap.size w w'
set_option maxRecDepth 100000 in
set_option maxHeartbeats 4000000 in
theorem plain_any (G T : Option Addr) (n cg m ct : Nat) (gs : List Gl) (ts : List Sti) (w : World) (hG : RdSl 2 RGl w G n gs) (hT : RdSl 4 RSti w T m ts) (hn : n ≤ 1073741824) (hm : m ≤ 1073741824) (hsz : ∀ (k : Nat) (e : Sti), ts[k]? = some e → e.sides.length ≤ 1073741824) :
    Calls Try.prog 69 #[.agg #[.slice G n cg, .slice T m ct]] w (PlainRes w gs ts) := by
  obtain ⟨i2, hi2, hz02, hz12, hz22⟩ := info_parts infoTi
  have hlg := Lib.hid hG.len
  have hlt := Lib.hid hT.len
  have hGH := Lib.hid hG
  have hTH := Lib.hid hT
  have hszH := Lib.hid hsz
  clear hG hT hsz
  go_enter Try.func69, Try.ntmps69
  go_wp2_with (go_at_call 120; refine (CloneGl_any G n cg gs _ (hGH.out.below RGl.stable (by exact bel_)) hn).mono ?_; rintro e w1 ⟨vg, rfl, hog, hb1⟩; obtain ⟨A1, cA, rfl⟩ := ownsRow_form hog; obtain ⟨chb1, fhb1, shb1, thb1⟩ := bcell hb1; have b0 := shb1 (w.heap.size + 1) (by go_simp); have b1 := shb1 (w.heap.size) (by go_simp))
  have r0 : w1.cell? ⟨w.heap.size + 1, 0, none⟩ = some (.slice none 0 0) := by go_simp
  have r1 : w1.cell? ⟨w.heap.size + 1, 1, none⟩ = some (.slice none 0 0) := by go_simp
  have rf0 : w1.frozen? ⟨w.heap.size + 1, 0, none⟩ = false := by go_simp
  have rf1 : w1.frozen? ⟨w.heap.size + 1, 1, none⟩ = false := by go_simp
  have hogH := Lib.hid (ownsRow_lo (base' := w.heap.size + 2) hog (by simp))
  have hb1H := Lib.hid (show Below w.heap.size w w1 by exact bel_)
  clear hog hb1 chb1 fhb1 shb1 thb1
  go_loopg [13] m (fun r x wr => ∃ (k : Nat) (us : List Value) (A2 : Option Addr) (c2 : Nat), k + r = m ∧ x = .int .i64 (k : Int) ∧ Hid (us.length = k) ∧ Hid (OwnT wr (w1.heap.size + 1) 152 2 (.slice A2 k c2) us ((tisOf ts).take k)) ∧ Hid (Below (w1.heap.size) w1 wr) ∧ w1.heap.size < wr.heap.size ∧ wr.cell? ⟨w1.heap.size, 0, none⟩ = some (.slice A1 gs.length cA) ∧ wr.frozen? ⟨w1.heap.size, 0, none⟩ = false ∧ wr.cell? ⟨w1.heap.size, 1, none⟩ = some (.slice A2 k c2) ∧ wr.frozen? ⟨w1.heap.size, 1, none⟩ = false)
  case atStart => exact ⟨0, [], none, 0, by omega, rfl, Lib.hid rfl, Lib.hid (by simpa using OwnT.nil _ _ _ _), Lib.hid (by exact bel_), by simp, by go_simp, by go_simp, by go_simp, by go_simp⟩
  case round =>
    obtain ⟨k, us, A2, c2, hk, rfl, hul, hO, hbw, hsz2, g0, gf0, g1, gf1⟩ := hrel
    have hT2 := hTH.out.below RSti.stable (hb1H.out.trans (hbw.out.mono hb1H.out.size))
    by_cases hkm : k < m
    · obtain ⟨bt, ot, rfl, hbt, hct⟩ := hT2.ptr (by omega)
      obtain ⟨e, he⟩ := hT2.get hkm
      obtain ⟨c0, ⟨SA, sn, sc, c1, hS⟩, ⟨OA, on, oc, c2', hO'⟩, ⟨FA, fn, fc, c3, hF⟩⟩ := hct k e he
      have hsn := hszH.out k e he
      rw [hS.len] at hsn
      have hsl := Lib.hid hS.len
      have heH := Lib.hid he
      have hSH := Lib.hid hS
      clear hct he hT2 hS hO' hF
      go_wp2
      obtain ⟨w4, hw4⟩ : ∃ W, W = wr.alloc (Obj.cells #[.string e.name, .slice SA sn sc, .slice OA on oc, .slice FA fn fc] 127) := ⟨_, rfl⟩
      rw [← hw4]
      have s4 : w4.heap.size = wr.heap.size + 1 := by rw [hw4]; simp
      have e0 : w4.cell? ⟨wr.heap.size, 0, none⟩ = some (.string e.name) := by rw [hw4]; go_simp
      have e1 : w4.cell? ⟨wr.heap.size, 1, none⟩ = some (.slice SA sn sc) := by rw [hw4]; go_simp
      have hb4 : Below wr.heap.size wr w4 := by rw [hw4]; exact bl_al (bl_refl _) _
      have q0 := (hb4.cell (p := ⟨w1.heap.size, 0, none⟩) hsz2).trans g0
      have q1 := (hb4.cell (p := ⟨w1.heap.size, 1, none⟩) hsz2).trans g1
      have qf0 := (hb4.frozen (p := ⟨w1.heap.size, 0, none⟩) hsz2).trans gf0
      have qf1 := (hb4.frozen (p := ⟨w1.heap.size, 1, none⟩) hsz2).trans gf1
      have hO4 := Lib.hid (hO.out.below hb4)
      have hS4 := Lib.hid (hSH.out.below RInt.stable hb4)
      have hbw4 := Lib.hid (hbw.out.trans (hb4.mono hbw.out.size))
      have l4 : w1.heap.size < w4.heap.size := by omega
      have l4e : wr.heap.size < w4.heap.size := by omega
      have l4b : w1.heap.size + 1 ≤ w4.heap.size := by omega
      clear hw4 hb4 hO hSH hbw hsz2 g0 gf0 g1 gf1 c0 c1 c2' c3 s4
      refine wp_region_ord [(0, .q), (1, .q), (2, .q), (3, .q), (4, .q), (5, .q), (6, .g), (7, .q), (8, .g), (9, .b), (10, .q), (11, .b)] (by kernel_rfl) (by kernel_rfl) ?_
      simp only [pick, List.filterMap_cons, List.filterMap_nil, List.getElem?_toArray, List.getElem?_cons_zero, List.getElem?_cons_succ, Option.map_some]
      repeat (first | ((with_reducible refine wpD_p (fun K hK => ?_)); go_simp; refine hK _ ?_; clear hK K) | ((with_reducible refine wpD_q (fun K hK => ?_)); go_simp; (first | refine hK _ ?_ | (go_bits; refine hK _ ?_) | (go_bits; go_simp; refine hK _ ?_)); clear hK K))
      with_reducible refine wpD_g (fun K hK => ?_)
      go_simp
      go_at_call 121
      refine (CloneI_any SA sn sc e.sides _ (hS4.out.below RInt.stable (by exact bel_)) hsn).mono ?_
      rintro e' w2 ⟨v2, rfl, ho2, hb2⟩
      obtain ⟨A3, c3, rfl⟩ := ownsRow_form ho2
      refine ⟨_, rfl, hb2, hK _ _ ?_⟩
      clear hK K
      have hB2 : Below w4.heap.size w4 w2 := (bl_dr (bl_refl w4)).trans (hb2.mono (by simp))
      replace ho2 := ownsRow_lo (base' := w4.heap.size) ho2 (by simp)
      replace q0 := (hB2.cell (p := ⟨w1.heap.size, 0, none⟩) l4).trans q0
      replace q1 := (hB2.cell (p := ⟨w1.heap.size, 1, none⟩) l4).trans q1
      replace qf0 := (hB2.frozen (p := ⟨w1.heap.size, 0, none⟩) l4).trans qf0
      replace qf1 := (hB2.frozen (p := ⟨w1.heap.size, 1, none⟩) l4).trans qf1
      have hOl := Lib.hid (show ∀ g, (∃ u : Value, (Value.slice A2 k c2 = u ∨ ∃ j, us[j]? = some u) ∧ u.ownBlock = some g) → g < w4.heap.size from fun g hh => by
        obtain ⟨u, hu, hg⟩ := hh
        rcases hu with rfl | ⟨j, hj⟩
        · exact (hO4.out.lt g hg).2
        · exact (hO4.out.ltIn hj g hg).2)
      replace hO4 := Lib.hid (hO4.out.below hB2)
      replace hbw4 := Lib.hid (hbw4.out.trans (hB2.mono hbw4.out.size))
      replace l4 := Nat.lt_of_lt_of_le l4 hB2.size
      replace l4e := Nat.lt_of_lt_of_le l4e hB2.size
      have hB2H := Lib.hid hB2
      have ho2H := Lib.hid ho2
      clear hb2 ho2 hB2 e0 e1 hS4
      repeat (first | ((with_reducible refine wpD_p (fun K hK => ?_)); go_simp; refine hK _ ?_; clear hK K) | ((with_reducible refine wpD_q (fun K hK => ?_)); go_simp; (first | refine hK _ ?_ | (go_bits; refine hK _ ?_) | (go_bits; go_simp; refine hK _ ?_)); clear hK K))
      with_reducible refine wpD_g (fun K hK => ?_)
      go_simp
      refine ⟨Grew.of_alloc _, hK _ _ ?_⟩
      clear hK K
      have hb5 : Hid (Below w2.heap.size w2 (w2.alloc (Obj.cells #[.string e.name, .slice A3 e.sides.length c3] 152))) := Lib.hid (by exact bel_)
      refine wpD_append_atN rfl _ _ 42 rfl (w1.heap.size + 1) 152 i2 (.agg #[.string ByteArray.empty, .slice none 0 0]) 2 40 Try.underlying42 hi2 hz02 hz12 hz22 rfl (by decide) (.slice A2 k c2) k (flatC encNU ((((tisOf ts).take k).map Ti.name).zip us)) (by go_simp) (by have := (hO4.out.below hb5.out).outer; rwa [hul.out] at this) ⟨w2.heap.size, 0, none⟩ 1 1 [.string e.name, .slice A3 e.sides.length c3] (by go_simp) rfl ?hnews (fun x hx => by simp at hx; rcases hx with rfl | rfl <;> rfl) (by unfold maxLen; omega) (by omega) (by simp; omega) ?_
      case hnews =>
        have := cell_two_newN w2 (.string e.name) (.slice A3 e.sides.length c3) 152
        simpa using this
      intro v5 w5 hown5 hgrow5 hat5
      obtain ⟨A5, c5, rfl⟩ := ownsRow_form hown5
      have hP := (hO4.out.below hb5.out).push (t := tiOf e) hul.out ((ownsRow_below ho2H.out hb5.out) |> fun h => ownsRow_lo h l4b) (fun g hg => by
        have h1 := (ho2H.out.lt g hg).1
        exact ⟨fun e' => by have := hOl.out g ⟨_, .inl rfl, e'⟩; omega, fun j u hu e' => by have := hOl.out g ⟨u, .inr ⟨j, hu⟩, e'⟩; omega⟩) hown5 hgrow5 hat5
      rw [← take_snoc (tisOf_get heH.out)] at hP
      have hbX : Below (w1.heap.size + 1) w2 w5 := (hb5.out.mono (by omega)).grown hgrow5 (by simp; omega) (fun g e => (hO4.out.lt g e).1)
      have m0 := (hbX.cell (p := ⟨w1.heap.size, 0, none⟩) (by simp)).trans q0
      have mf0 := (hbX.frozen (p := ⟨w1.heap.size, 0, none⟩) (by simp)).trans qf0
      have m1 := (hbX.cell (p := ⟨w1.heap.size, 1, none⟩) (by simp)).trans q1
      have mf := (hbX.frozen (p := ⟨w1.heap.size, 1, none⟩) (by simp)).trans qf1
      have l5 : w1.heap.size < w5.heap.size := by have := hbX.size; omega
      have hPH := Lib.hid hP
      have hbXH := Lib.hid (hbw4.out.trans (hbX.mono (by omega)))
      clear hown5 hgrow5 hat5 hP hbX q0 q1 qf0 qf1 hb5
      repeat (first | ((with_reducible refine wpD_p (fun K hK => ?_)); go_simp; refine hK _ ?_; clear hK K) | ((with_reducible refine wpD_q (fun K hK => ?_)); go_simp; (first | refine hK _ ?_ | (go_bits; refine hK _ ?_) | (go_bits; go_simp; refine hK _ ?_)); clear hK K))
      with_reducible refine wpD_b (fun K hK => ?_)
      go_simp
      refine hK _ _ ?_
      clear hK K
      with_reducible refine wpD_nil ?_
      go_wp2
      go_roundg (m - (k + 1))
      case measure => omega
      case rel =>
        exact ⟨k + 1, us ++ [.slice A3 e.sides.length c3], A5, c5, by omega, by go_num, Lib.hid (by simp [hul.out]), Lib.hid (hPH.out.setBelow (by simp) _), Lib.hid (hbXH.out.setCell (p := ⟨w1.heap.size, 1, none⟩) (by simp) _), by simp; omega, by go_simp, by go_simp, by go_simp, by go_simp⟩
    · obtain rfl : k = m := by omega
      clear hT2
      have s1 := hb1H.out.size
      have z0 : wr.cell? ⟨w.heap.size + 1, 0, none⟩ = some (.slice none 0 0) := (hbw.out.cell (p := ⟨w.heap.size + 1, 0, none⟩) b0).trans r0
      have z1 : wr.cell? ⟨w.heap.size + 1, 1, none⟩ = some (.slice none 0 0) := (hbw.out.cell (p := ⟨w.heap.size + 1, 1, none⟩) b0).trans r1
      have zf0 : wr.frozen? ⟨w.heap.size + 1, 0, none⟩ = false := (hbw.out.frozen (p := ⟨w.heap.size + 1, 0, none⟩) b0).trans rf0
      have zf1 : wr.frozen? ⟨w.heap.size + 1, 1, none⟩ = false := (hbw.out.frozen (p := ⟨w.heap.size + 1, 1, none⟩) b0).trans rf1
      have lz : w.heap.size + 1 < wr.heap.size := by omega
      go_wp2
      refine bodyPost_ret (v := .agg #[.slice A1 gs.length cA, .slice A2 k c2]) (by simp only [results, Try.results69]; go_simp) rfl ?_
      refine ⟨_, rfl, ⟨_, _, us, rfl, ?_, ?_⟩, ?_⟩
      · refine ownsRow_lo (ownsRow_setB (ownsRow_setB (ownsRow_below hogH.out hbw.out) (by simp) _) (by simp) _) (by omega)
      · have h := hO.out
        rw [List.take_of_length_le (by rw [tisOf_len, hlt.out]; exact Nat.le_refl _)] at h
        exact ((h.setBelow (by simp; omega) _).setBelow (by simp; omega) _).rebase (by omega)
      · exact ((hb1H.out.trans (hbw.out.mono hb1H.out.size)).setCell (p := ⟨w.heap.size + 1, 0, none⟩) (by simp) _).setCell (p := ⟨w.heap.size + 1, 1, none⟩) (by simp) _
theorem allB_at' {n k : Nat} {p : Nat → Bool} (h : allB n p = true) (hk : k < n) : p k = true := by
  simp only [allB, List.all_eq_true, List.mem_range] at h
  exact h k hk
/-- the set's check -/
def sgSetB (gs : List Gl) (ts : List Sti) : Bool := validSetB gs (tisOf ts) && allB ts.length (okStJ ts)
def BigG (gs : List Gl) : Prop := ∀ (k : Nat) (e : Gl), gs[k]? = some e → e.name.size ≤ 9223372036854775807
def BigS (ts : List Sti) : Prop := ∀ (k : Nat) (e : Sti), ts[k]? = some e → e.name.size ≤ 9223372036854775807 ∧ e.sides.length ≤ 1073741824 ∧ e.on.length ≤ 1073741824 ∧ e.fires.length ≤ 1073741824
theorem valid_four {gs : List Gl} {ts : List Ti} (h : validSetB gs ts = true) {k : Nat} {t : Ti} (hk : ts[k]? = some t) : t.sides.length = 4 := by
  unfold validSetB at h
  simp only [Bool.and_eq_true] at h
  have := allB_at' h.2.2 ((List.getElem?_eq_some_iff.1 hk).1)
  rw [okTi_eq hk] at this
  simp only [Bool.and_eq_true, decide_eq_true_eq] at this
  exact this.2.1
theorem smSt_of {gs : List Gl} {ts : List Sti} (h : validSetB gs (tisOf ts) = true) (hb : BigS ts) : SmSt ts := fun k e he => ⟨valid_four h (tisOf_get he), (hb k e he).2.2.1, (hb k e he).2.2.2⟩
set_option maxHeartbeats 1000000 in
theorem ValidSignalSet_any (G T : Option Addr) (n cg m ct : Nat) (gs : List Gl) (ts : List Sti) (w : World) (hG : RdSl 2 RGl w G n gs) (hT : RdSl 4 RSti w T m ts) (hn : n ≤ 1073741824) (hm : m ≤ 1073741824) (hbg : BigG gs) (hbs : BigS ts) :
    Calls Try.prog 31 #[.agg #[.slice G n cg, .slice T m ct]] w fun e w' => e = .returned (.bool (sgSetB gs ts)) ∧ Below w.heap.size w w' := by
  have hlg := Lib.hid hG.len
  have hlt := Lib.hid hT.len
  have hGH := Lib.hid hG
  have hTH := Lib.hid hT
  have hbgH := Lib.hid hbg
  have hbsH := Lib.hid hbs
  clear hG hT hbg hbs
  cases hv : validSetB gs (tisOf ts)
  all_goals
    have hvH := Lib.hid hv
    clear hv
    go_enter Try.func31, Try.ntmps31
    go_wp2_with (first
      | (go_at_call 69; refine (plain_any G T n cg m ct gs ts _ (hGH.out.below RGl.stable (by exact bel_)) (hTH.out.below RSti.stable (by exact bel_)) hn hm (fun k e he => (hbsH.out k e he).2.1)).mono ?_; rintro e w1 ⟨vp, rfl, hsp, hb1⟩; obtain ⟨A, n2, cA, B, m2, cB, rfl, rA, rB⟩ := hsp.rd; have lA := rA.len; have lB := rB.len; have lA2 := hlg.out; have lB2 := hlt.out; rw [tisOf_len] at lB; have rAH := Lib.hid rA; have rBH := Lib.hid rB; obtain ⟨chb1, fhb1, shb1, thb1⟩ := bcell hb1; have b1 := shb1 (w.heap.size) (by go_simp); clear rA rB hsp)
      | (go_at_call 68; refine (ValidSet_any A B n2 cA m2 cB gs (tisOf ts) _ rAH.out rBH.out (by omega) (by omega) hbgH.out (fun k e he => by obtain ⟨t, ht, rfl⟩ := tisOf_inv he; exact ⟨(hbsH.out k t ht).1, by have := (hbsH.out k t ht).2.1; show t.sides.length ≤ _; omega⟩)).mono ?_; rw [hvH.out]; rintro e w2 ⟨rfl, hb2⟩; obtain ⟨chb2, fhb2, shb2, thb2⟩ := bcell hb2; have b2 := shb2 (w.heap.size) b1)
      | (go_at_call 70; refine (ContainsFuncSt_any T m ct ts _ (hTH.out.below RSti.stable (by exact bel_)) hm (smSt_of hvH.out hbsH.out)).mono ?_; rintro e w3 ⟨rfl, hb3⟩))
    go_ret
  · exact ⟨ret_bool (by unfold sgSetB; rw [hvH.out]; rfl), by exact bel_⟩
  · exact ⟨ret_bool (by unfold sgSetB; rw [hvH.out, hlt.out]; simp), by exact bel_⟩
end Go.Proofs.Ytbipnnjkddffbaa
