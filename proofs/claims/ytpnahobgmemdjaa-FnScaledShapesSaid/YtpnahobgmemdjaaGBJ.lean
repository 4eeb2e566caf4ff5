import Derived.Test.YtpnahobgmemdjaaGBG
import Derived.Test.YtpnahobgmemdjaaGBH
import Derived.Test.YtpnahobgmemdjaaGAQ
import Derived.Test.YtpnahobgmemdjaaGAL
import Derived.Test.YtpnahobgmemdjaaGBI
import Derived.Test.YtpnahobgmemdjaaGAU
import Derived.Test.YtpnahobgmemdjaaGAP
set_option linter.unusedSimpArgs false
set_option linter.unusedVariables false
/- Walks: the holes of a shape, the program. -/







namespace Go.Proofs.Ytpnahobgmemdjaa
open Go.RowKit Go.Shelf
attribute [local go_sem] BelowBy.cell BelowBy.cell_drew stillUpon givesUpon

theorem RdSl.gb {g : Nat} {w W : World} {A : Option Addr} {n : Nat} {ps : List Pt} (h : RdSl 2 RPt w A n ps) (hA : 0 < n → ∀ b o, A = some ⟨b, o, none⟩ → b ≠ g) (hb : Gb g w W) : RdSl 2 RPt W A n ps :=
  ⟨h.len, fun hn => by
    obtain ⟨b, o, e, hlt, hc⟩ := h.cells hn
    exact ⟨b, o, e, Nat.lt_of_lt_of_le hlt hb.size, fun k hk => ⟨(hb.cell (o := o + k * 2) hlt (hA hn b o e)).trans (hc k hk).1, (hb.cell (o := o + k * 2 + 1) hlt (hA hn b o e)).trans (hc k hk).2⟩⟩⟩
theorem RdSl.lt_base {w : World} {A : Option Addr} {n : Nat} {ps : List Pt} (h : RdSl 2 RPt w A n ps) (hn : 0 < n) : ∀ b o, A = some ⟨b, o, none⟩ → b < w.heap.size := fun b o e => by
  obtain ⟨b', o', e', hlt, _⟩ := h.cells hn
  rw [e] at e'
  injection e' with e'
  injection e' with e'
  omega
theorem keepG_filter {α : Type} (del : α → Bool) (bs : List α) : keepG del bs bs.length = bs.filter fun b => !del b := by
  unfold keepG; rw [List.take_length]
/-- rows of points that the call has made -/
def RowsR (w : World) (P : List (List Pt)) (e : Ending) (w' : World) : Prop :=
  ∃ A c us, e = .returned (.slice A P.length c) ∧ Own2 w' w.heap.size 42 34 2 (.slice A P.length c) us (P.map ptCells) ∧ Below w.heap.size w w'
end Go.Proofs.Ytpnahobgmemdjaa
/- Walks: the least rectangle of points, the reference; the area, both. -/

namespace Go.Proofs.Ytpnahobgmemdjaa
open Go.RowKit
attribute [local go_sem] BelowBy.cell BelowBy.cell_drew stillUpon givesUpon

theorem l00Max_v {x y r : Int} (w : World) (h : mx x y = r) :
    Calls Try.prog 42 #[.int .i64 x, .int .i64 y] w fun e w' => e = .returned (.int .i64 r) ∧ w = w' := by
  subst h
  by_cases hh : y < x
  · have hr := Lib.hid (show mx x y = x by unfold mx; split <;> omega)
    go_enter Try.func42, Try.ntmps42
    go_wp2
    go_ret
    exact ⟨ret_int hr.out.symm, rfl⟩
  · have hr := Lib.hid (show mx x y = y by unfold mx; split <;> omega)
    go_enter Try.func42, Try.ntmps42
    go_wp2
    go_ret
    exact ⟨ret_int hr.out.symm, rfl⟩
theorem areaI_wraps {bx : Bnd} (h1 : -60 ≤ bx.lx ∧ bx.lx ≤ 60) (h2 : -60 ≤ bx.ly ∧ bx.ly ≤ 60) (h3 : -60 ≤ bx.hx ∧ bx.hx ≤ 60) (h4 : -60 ≤ bx.hy ∧ bx.hy ≤ 60) :
    IntKind.i64.wrap (bx.hx - bx.lx) = bx.hx - bx.lx ∧ IntKind.i64.wrap (bx.hx - bx.lx + 1) = bx.hx - bx.lx + 1 ∧ IntKind.i64.wrap (bx.hy - bx.ly) = bx.hy - bx.ly ∧ IntKind.i64.wrap (bx.hy - bx.ly + 1) = bx.hy - bx.ly + 1 ∧
      IntKind.i64.wrap ((bx.hx - bx.lx + 1) * (bx.hy - bx.ly + 1)) = areaI bx := by
  have hW : ∀ n : Int, -9000000000000000000 ≤ n → n ≤ 9000000000000000000 → IntKind.i64.wrap n = n := fun n h1 h2 => by
    simp [IntKind.wrap, IntKind.bits, IntKind.signed]; omega
  have hr := areaI_rng h1 h2 h3 h4
  exact ⟨hW _ (by omega) (by omega), hW _ (by omega) (by omega), hW _ (by omega) (by omega), hW _ (by omega) (by omega), hW (areaI bx) (by omega) (by omega)⟩
end Go.Proofs.Ytpnahobgmemdjaa
/- Walks: the holes of a shape, the reference; HolesOf of both. -/





namespace Go.Proofs.Ytpnahobgmemdjaa
open Go.RowKit Go.Shelf
attribute [local go_sem] BelowBy.cell BelowBy.cell_drew stillUpon givesUpon

/-- the free points of the first i places of row j -/
def freeN (ps L : List Pt) : List Pt := L.filter fun p => !decide (p ∈ ps)
theorem freeN_snoc (ps L : List Pt) (e : Pt) : freeN ps (L ++ [e]) = freeN ps L ++ (if e ∈ ps then [] else [e]) := by
  unfold freeN
  rw [List.filter_append]
  by_cases h : e ∈ ps <;> simp [h]
theorem freeN_len (ps L : List Pt) : (freeN ps L).length ≤ L.length := List.length_filter_le _ _
/-- the parts of the first t that are kept -/
def holesN (ps : List Pt) (P : List (List Pt)) : List (List Pt) := P.filter fun l => !(l.any (edgeB ps))
theorem holesN_snoc (ps : List Pt) (P : List (List Pt)) (l : List Pt) : holesN ps (P ++ [l]) = holesN ps P ++ (if l.any (edgeB ps) then [] else [l]) := by
  unfold holesN
  rw [List.filter_append]
  cases h : l.any (edgeB ps) <;> simp [h]
def holR (ps : List Pt) : List (List Pt) × Int := if shapeB ps then (holesB ps, 0) else ([], 1)
/-- rows of points that the call has made, and a code -/
def RowsC (w : World) (r : List (List Pt) × Int) (e : Ending) (w' : World) : Prop :=
  ∃ A c us, e = .returned (.tuple #[.slice A r.1.length c, .int .i64 r.2]) ∧ Own2 w' w.heap.size 42 34 2 (.slice A r.1.length c) us (r.1.map ptCells) ∧ Below w.heap.size w w'
theorem shapeCode_at {A : Option Addr} {n c : Nat} {ps : List Pt} {r : Bool} {w : World} (h : RdSl 2 RPt w A n ps) (hn : n ≤ 1073741824) (hr : shapeB ps = r) :
    Calls Try.prog 48 #[.slice A n c, .bool true] w fun e w' => e = .returned (.int .i64 (if r then 0 else 1)) ∧ Below w.heap.size w w' := by
  have hH := Lib.hid h
  have hrH := Lib.hid hr
  clear h hr
  cases r
  · go_enter Try.func48, Try.ntmps48
    go_wp2_with (go_at_call 78; refine (ValidShape_any _ _ _ ps _ hH.out hn).mono ?_; rw [hrH.out]; rintro e w1 ⟨rfl, hb1⟩; have hb1H := Lib.hid hb1; clear hb1)
    go_ret
    exact ⟨rfl, hb1H.out⟩
  · go_enter Try.func48, Try.ntmps48
    go_wp2_with (go_at_call 78; refine (ValidShape_any _ _ _ ps _ hH.out hn).mono ?_; rw [hrH.out]; rintro e w1 ⟨rfl, hb1⟩; have hb1H := Lib.hid hb1; clear hb1)
    go_ret
    exact ⟨rfl, hb1H.out⟩
end Go.Proofs.Ytpnahobgmemdjaa
