import Derived.Test.YtpnahobgmemdjaaGAX
set_option linter.unusedSimpArgs false
set_option linter.unusedVariables false
/- Walks: the reference's move of an assembly. -/

namespace Go.Proofs.Ytpnahobgmemdjaa
open Go.RowKit Go.Shelf
attribute [local go_sem] BelowBy.cell BelowBy.cell_drew stillUpon givesUpon BelowBy.cell_drew2 BelowBy.cell_drew3

def okMv (dx dy : Int) (xs : List Pl) (k : Nat) : Bool := match xs[k]? with
  | some e => validPt (e.x + dx) (e.y + dy)
  | none => true
theorem okMv_eq {dx dy : Int} {xs : List Pl} {k : Nat} {e : Pl} (h : xs[k]? = some e) : okMv dx dy xs k = validPt (e.x + dx) (e.y + dy) := by unfold okMv; rw [h]
def mvOk (dx dy : Int) (xs : List Pl) : Bool := allB xs.length (okMv dx dy xs)
theorem mvOk_no {dx dy : Int} {xs : List Pl} {k : Nat} {e : Pl} (h : xs[k]? = some e) (hv : validPt (e.x + dx) (e.y + dy) = false) : mvOk dx dy xs = false :=
  allB_false (lt_of_get h) ((okMv_eq h).trans hv)
theorem mvL_take_succ {dx dy : Int} {xs : List Pl} {k : Nat} {e : Pl} (h : xs[k]? = some e) : mvL dx dy (xs.take (k + 1)) = mvL dx dy (xs.take k) ++ [⟨e.x + dx, e.y + dy, e.t⟩] := by
  obtain ⟨hk, rfl⟩ := List.getElem?_eq_some_iff.1 h
  unfold mvL
  rw [List.take_succ_eq_append_getElem hk, List.map_append]; rfl
def MvRes (w : World) (dx dy : Int) (xs : List Pl) (e : Ending) (w' : World) : Prop :=
  ∃ B m c', e = .returned (.tuple #[.agg #[.slice B m c'], .bool (mvOk dx dy xs)]) ∧ (mvOk dx dy xs = true → m = xs.length ∧ RdSl 3 RPl w' B m (mvL dx dy xs) ∧ ∀ b o, B = some ⟨b, o, none⟩ → w.heap.size ≤ b) ∧ Below w.heap.size w w'
def MvOwn (w : World) (dx dy : Int) (xs : List Pl) (e : Ending) (w' : World) : Prop :=
  ∃ B m c', e = .returned (.tuple #[.agg #[.slice B m c'], .bool (mvOk dx dy xs)]) ∧ (mvOk dx dy xs = true → m = xs.length ∧ w'.ownsRow w.heap.size 38 3 (.slice B m c') m (plCells (mvL dx dy xs))) ∧ Below w.heap.size w w'
end Go.Proofs.Ytpnahobgmemdjaa
/- What JoinStrength computes; the program's walk. -/

namespace Go.Proofs.Ytpnahobgmemdjaa
open Go.RowKit Go.Shelf
attribute [local go_sem] BelowBy.cell BelowBy.cell_drew stillUpon givesUpon BelowBy.cell_drew2 BelowBy.cell_drew3

theorem allB_ex {n : Nat} {p : Nat → Bool} (h : allB n p = false) : ∃ k, k < n ∧ p k = false := by
  simp only [allB, List.all_eq_false, List.mem_range] at h
  obtain ⟨k, hk, hp⟩ := h
  exact ⟨k, hk, by simpa using hp⟩
theorem lessPt_mv (ax ay bx b_y dx dy : Int) : lessPt (ax + dx) (ay + dy) (bx + dx) (b_y + dy) = lessPt ax ay bx b_y := by
  rw [Bool.eq_iff_iff, lessPt_iff, lessPt_iff]; omega
theorem hasForm_mv {gs : List Gl} {ts : List Ti} {ys : List Pl} (dx dy : Int) (hV : Valid gs ts ys) : hasFormB (mvL dx dy ys) = mvOk dx dy ys := by
  cases hm : mvOk dx dy ys
  · obtain ⟨k, hk, hp⟩ := allB_ex hm
    have he := List.getElem?_eq_getElem hk
    rw [okMv_eq he] at hp
    refine hasFormB_bad (k := k) (by rw [mvL_len]; exact hk) ?_
    cases k with
    | zero => rw [okPl_eq0 (mvL_get he)]; simp only [mvP]; rw [hp]; rfl
    | succ k => rw [okPl_eqS (mvL_get he) (mvL_get (List.getElem?_eq_getElem (by omega)))]; simp only [mvP]; rw [hp]; rfl
  · refine hasFormB_ok (by rw [mvL_len]; exact hV.len) (fun j hj => ?_)
    rw [mvL_len] at hj
    have he := List.getElem?_eq_getElem hj
    have hp := allB_at hm hj
    rw [okMv_eq he] at hp
    obtain ⟨t, ht, htl⟩ := hV.ti j _ he
    have htl2 := hV.tl
    have h2 : inB ys[j].t 0 159 = true := inB_true.2 (by omega)
    cases j with
    | zero => rw [okPl_eq0 (mvL_get he)]; simp only [mvP]; rw [hp, h2]; rfl
    | succ k =>
      have hd := List.getElem?_eq_getElem (l := ys) (i := k) (by omega)
      rw [okPl_eqS (mvL_get he) (mvL_get hd)]; simp only [mvP]; rw [hp, h2, lessPt_mv, hV.sorted k (k + 1) _ _ (by omega) hd he]; rfl
noncomputable def freeAt (xs ms : List Pl) (k : Nat) : Bool := match ms[k]? with
  | some e => decide (placeI xs e.x e.y < 0)
  | none => true
theorem freeAt_eq {xs ms : List Pl} {k : Nat} {e : Pl} (h : ms[k]? = some e) : freeAt xs ms k = decide (placeI xs e.x e.y < 0) := by unfold freeAt; rw [h]
noncomputable def sumJ (gs : List Gl) (ts : List Ti) (xs ms : List Pl) : Nat → Int
  | 0 => 0
  | k + 1 => sumJ gs ts xs ms k + (match ms[k]? with
    | some e => bindN gs ts xs e.x e.y e.t.toNat 4
    | none => 0)
theorem sumJ_bound {gs : List Gl} {ts : List Ti} {xs : List Pl} (hV : Valid gs ts xs) (ms : List Pl) (k : Nat) : 0 ≤ sumJ gs ts xs ms k ∧ sumJ gs ts xs ms k ≤ 16 * (k : Int) := by
  induction k with
  | zero => simp [sumJ]
  | succ k ih =>
    simp only [sumJ]
    split
    · rename_i e _
      have := bindN_bound hV e.x e.y e.t.toNat 4
      omega
    · omega
theorem sumJ_succ {gs : List Gl} {ts : List Ti} {xs ms : List Pl} {k t : Nat} {e : Pl} {S r : Int} (hS : sumJ gs ts xs ms k = S) (h : ms[k]? = some e) (ht : e.t = t) (hr : bindN gs ts xs e.x e.y t 4 = r) : sumJ gs ts xs ms (k + 1) = S + r := by
  simp only [sumJ, h]
  have : e.t.toNat = t := by omega
  rw [this, hS, hr]
noncomputable def joinE (gs : List Gl) (ts : List Ti) (xs ms : List Pl) : Int × Int := if allB ms.length (freeAt xs ms) = true then (sumJ gs ts xs ms ms.length, 0) else (0, 7)
noncomputable def joinM (gs : List Gl) (ts : List Ti) (xs ys : List Pl) (dx dy : Int) : Int × Int :=
  if inB dx (-120) 120 = false then (0, 2) else if inB dy (-120) 120 = false then (0, 2) else if mvOk dx dy ys = false then (0, 2) else joinE gs ts xs (mvL dx dy ys)
noncomputable def joinR (gs : List Gl) (ts : List Ti) (xs ys : List Pl) (dx dy : Int) : Int × Int :=
  if validAsmB gs ts xs = false then (0, 1) else if validAsmB gs ts ys = false then (0, 1) else joinM gs ts xs ys dx dy
theorem joinE_hit {gs : List Gl} {ts : List Ti} {xs ms : List Pl} {k : Nat} {e : Pl} {i : Nat} (h : ms[k]? = some e) (hp : placeI xs e.x e.y = i) : ((0, 7) : Int × Int) = joinE gs ts xs ms := by
  unfold joinE
  rw [allB_false (lt_of_get h) ((freeAt_eq h).trans (decide_eq_false (by omega))), if_neg (by decide)]
theorem joinE_all {gs : List Gl} {ts : List Ti} {xs ms : List Pl} (h : ∀ j, j < ms.length → freeAt xs ms j = true) : (sumJ gs ts xs ms ms.length, 0) = joinE gs ts xs ms := by
  unfold joinE
  rw [allB_true h, if_pos rfl]
theorem hasForm_at {A : Option Addr} {n c : Nat} {xs : List Pl} {w : World} {v : Bool} (h : RdSl 3 RPl w A n xs) (hn : n ≤ 1073741824) (hv : hasFormB xs = v) :
    Calls Try.prog 30 #[.agg #[.slice A n c]] w fun e w' => e = .returned (.bool v) ∧ Below w.heap.size w w' := by
  rw [← hv]; exact hasForm_any A n c xs w h hn
/-- where the moved tiles stand -/
theorem mv_pt {gs : List Gl} {ts : List Ti} {ys : List Pl} {dx dy : Int} (hV : Valid gs ts ys) (hm : mvOk dx dy ys = true) {k : Nat} {e : Pl} (h : (mvL dx dy ys)[k]? = some e) : (-60 ≤ e.x ∧ e.x ≤ 60) ∧ (-60 ≤ e.y ∧ e.y ≤ 60) ∧ ∃ t : Nat, e.t = t ∧ t < ts.length := by
  have hk := lt_of_get h
  rw [mvL_len] at hk
  have he := List.getElem?_eq_getElem hk
  rw [mvL_get he] at h
  obtain rfl := Option.some.inj h
  have hp := allB_at hm hk
  rw [okMv_eq he] at hp
  simp only [validPt, Bool.and_eq_true, inB_true] at hp
  have ht := hV.ti k _ he
  exact ⟨hp.1, hp.2, ht⟩
end Go.Proofs.Ytpnahobgmemdjaa
/- Walks: JoinStrength, the program's and the reference's. -/

namespace Go.Proofs.Ytpnahobgmemdjaa
open Go.RowKit Go.Shelf
attribute [local go_sem] BelowBy.cell BelowBy.cell_drew stillUpon givesUpon BelowBy.cell_drew2 BelowBy.cell_drew3

def okA (ts : List Ti) (xs : List Pl) : Bool := hasFormB xs && allB xs.length (okTile ts.length xs)
def askJ (gs : List Gl) (ts : List Ti) (xs ys : List Pl) : Bool := validAsmB gs ts xs && validAsmB gs ts ys
theorem askJ_eq (gs : List Gl) (ts : List Ti) (xs ys : List Pl) : askJ gs ts xs ys = (validSetB gs ts && okA ts xs && okA ts ys) := by
  unfold askJ validAsmB okA
  cases validSetB gs ts <;> simp
def okM (dx dy : Int) (ys : List Pl) : Bool := inB dx (-120) 120 && inB dy (-120) 120 && mvOk dx dy ys
def MvRes2 (w : World) (dx dy : Int) (xs : List Pl) (e : Ending) (w' : World) : Prop :=
  ∃ B m c', e = .returned (.tuple #[.agg #[.slice B m c'], .bool (okM dx dy xs)]) ∧ (okM dx dy xs = true → m = xs.length ∧ RdSl 3 RPl w' B m (mvL dx dy xs)) ∧ Below w.heap.size w w'
end Go.Proofs.Ytpnahobgmemdjaa
