/- Walks: the harness' words on systems: their size, a copy, the comparison. -/
import Derived.Test.YtpnahobgmemdjaaGreatDoorHTo
import Derived.Test.YtpnahobgmemdjaaGreatDoorW1
import Derived.Test.YtpnahobgmemdjaaGreatDoorBase2
import Derived.Test.YtpnahobgmemdjaaGreatDoorKE
namespace Go.Proofs.YtpnahobgmemdjaaGreatDoor
open Go.RowKit
set_option linter.unusedSimpArgs false
set_option linter.unusedVariables false
attribute [local go_sem] BelowBy.cell BelowBy.cell_drew stillUpon givesUpon

/-- a system that was copied -/
def ResSys (TG TT TI TP : Nat) (w : World) (n : Nat) (gs : List Gl) (m : Nat) (ts : List Ti) (q : Nat) (xs : List Pl) (t : Int) (e : Ending) (w' : World) : Prop :=
  ∃ A B C, e = .returned (.agg #[.slice A n n, .slice B m m, .slice C q q, .int .i64 t]) ∧ OwSl TG 2 RGl w' w.heap.size A n gs ∧ OwSl TT 2 (ROTi TI w.heap.size) w' w.heap.size B m ts ∧ OwSl TP 3 RPl w' w.heap.size C q xs ∧ Below w.heap.size w w'
set_option maxHeartbeats 1000000 in
theorem eqSystem_same (A B A2 B2 A3 B3 : Option Addr) (n c d m c2 d2 q c3 d3 : Nat) (gs : List Gl) (ts : List Ti) (xs : List Pl) (t : Int) (w : World) (h1 : RdSl 2 RGl w A n gs) (h2 : RdSl 2 RGl w B n gs) (k1 : RdSl 2 RTi w A2 m ts) (k2 : RdSl 2 RTi w B2 m ts) (j1 : RdSl 3 RPl w A3 q xs) (j2 : RdSl 3 RPl w B3 q xs)
    (hn : n ≤ 1073741824) (hm : m ≤ 1073741824) (hx : ∀ e ∈ ts, e.sides.length ≤ 1073741824) (hq : q ≤ 1073741824) :
    Calls Tryz.prog 6 #[.agg #[.slice A n c, .slice A2 m c2, .slice A3 q c3, .int .i64 t], .agg #[.slice B n d, .slice B2 m d2, .slice B3 q d3, .int .i64 t]] w fun e w' => e = .returned (.bool true) ∧ Below w.heap.size w w' := by
  have hb0 : ∀ o1 o2, Below w.heap.size w ((w.alloc o1).alloc o2) := fun o1 o2 => bl_al (bl_al (bl_refl _) _) _
  
  go_enter Tryz.func6, Tryz.ntmps6
  go_wp2_with (first | (go_at_call 19; refine (eqTileSet_same _ _ _ _ _ _ _ _ _ _ gs ts _ (h1.below RGl.stable (hb0 _ _)) (h2.below RGl.stable (hb0 _ _)) (k1.below RTi.stable (hb0 _ _)) (k2.below RTi.stable (hb0 _ _)) hn hm hx).mono ?_; rintro e w1 ⟨rfl, hb1⟩; obtain ⟨chb1, fhb1, shb1, thb1⟩ := bcell hb1; (try have bhb10 := shb1 (w.heap.size) (by go_simp)); (try have bhb11 := shb1 (w.heap.size + 1) (by go_simp))) | (go_at_call 20; refine (eqAssembly_same _ _ _ _ _ xs _ (j1.below RPl.stable (bl_tr (hb0 _ _) hb1)) (j2.below RPl.stable (bl_tr (hb0 _ _) hb1)) hq).mono ?_; rintro e w2 ⟨rfl, hb2⟩; obtain ⟨chb2, fhb2, shb2, thb2⟩ := bcell hb2; (try have bhb20 := shb2 (w.heap.size) (by go_simp)); (try have bhb21 := shb2 (w.heap.size + 1) (by go_simp))))
  go_ret
  refine ⟨rfl, ?_⟩
  exact bel_
end Go.Proofs.YtpnahobgmemdjaaGreatDoor
