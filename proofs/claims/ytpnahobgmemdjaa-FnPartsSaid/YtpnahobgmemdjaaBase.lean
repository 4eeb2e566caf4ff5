/- Words for all walks of this seat: slices that read as lists, worlds that only grow, regions that draw their order and only read or lay blocks. -/
import Derived.WalkKit
import Derived.WalkSpells
import Derived.WalkLawsBesides
import Derived.Deep.QuietTactic
import Derived.BigQuiet
import Derived.Lib.Hide
import Derived.Deep.LoopGhost
import Derived.Test.YtpnahobgmemdjaaOrd
namespace Go.Proofs.Ytpnahobgmemdjaa
open Go.RowKit
set_option linter.unusedSimpArgs false
set_option linter.unusedVariables false

theorem wp_region_below {P : Program} {id : Nat} {Q : Exit → Act → World → Prop} {a : Act} {w : World} {l : List Oper} (hm : P.follows .mixedOrders = true) (hB : Region.lexB .any l.toArray = true)
    (h : wpQuiet P l.toArray (fun w' => ∃ p : BelowBy w, w' = p.world) (fun a' => ∀ w', (∃ p : BelowBy w, w' = p.world) → Q .normal a' w') l a) : (Code.region id l.toArray true).wp P Q a w :=
  wp_region_quiet (C := fun w' => ∃ p : BelowBy w, w' = p.world) hm hB ⟨⟨_, (Below.refl _ _).drew⟩, rfl⟩ (by simpa using h)

theorem Calls.below_of {P : Program} {f : FuncId} {args : Array Value} {w : World} {p : BelowBy w} {v : Value}
    (h : Calls P f args p.world fun e w' => e = .returned v ∧ Below p.world.heap.size p.world w') : Calls P f args p.world fun e w'' => e = .returned v ∧ ∃ p' : BelowBy w, w'' = p'.world :=
  h.mono fun _ w' ⟨he, hb⟩ => ⟨he, ⟨⟨w', p.h.trans (hb.mono p.h.size)⟩, rfl⟩⟩

theorem Calls.below_same {P : Program} {f : FuncId} {args : Array Value} {w : World} {p : BelowBy w} {v : Value}
    (h : Calls P f args p.world fun e w' => e = .returned v ∧ p.world = w') : Calls P f args p.world fun e w'' => e = .returned v ∧ ∃ p' : BelowBy w, w'' = p'.world :=
  h.mono fun _ _ ⟨he, hb⟩ => ⟨he, ⟨p, hb.symm⟩⟩

theorem bl_refl (w : World) : Below w.heap.size w w := Below.refl _ _
theorem bl_al {w W : World} (h : Below w.heap.size w W) (o : Obj) : Below w.heap.size w (W.alloc o) := h.alloc h.size o
theorem bl_dr {w W : World} (h : Below w.heap.size w W) : Below w.heap.size w W.drew := h.drew
theorem bl_tr {w W W' : World} (h : Below w.heap.size w W) (k : Below W.heap.size W W') : Below w.heap.size w W' := h.trans (k.mono h.size)
theorem bl_set {w W : World} {p : Addr} (h : Below w.heap.size w W) (hp : w.heap.size ≤ p.block) (u : Value) : Below w.heap.size w (W.setCell p u) := h.setCell hp u

/-- closes by the ways of Below: the tactic stands in the premise's default, so that a text names it in one word (a claim's bytes are counted) -/
theorem bel_ {p : Prop} (h : p := by repeat (first | with_reducible (first | exact bl_refl _ | assumption | refine bl_al ?_ _ | refine bl_dr ?_ | refine bl_tr ?_ (by assumption) | refine bl_set ?_ ?_ _ | exact Nat.le_refl _) | omega | (simp only [World.size_alloc, World.size_setCell, World.size_drew] at *; omega) | (dsimp only; omega) | (simp; done) | (simp; omega))) : p := h
/-- the same for a world that calls and layings alone have made -/
theorem bk_ {p : Prop} (h : p := by repeat (with_reducible first | assumption | exact bl_refl _ | refine bl_al ?_ _ | refine bl_dr ?_)) : p := h
theorem om_ {p : Prop} (h : p := by dsimp only [RowKit.Hid] at *; (try simp only [World.size_alloc, World.size_drew]); omega) : p := h
theorem bcell {W w1 : World} (hb : Below W.heap.size W w1) : (∀ b o, b < W.heap.size → w1.cell? ⟨b, o, none⟩ = W.cell? ⟨b, o, none⟩) ∧ (∀ b o, b < W.heap.size → w1.frozen? ⟨b, o, none⟩ = W.frozen? ⟨b, o, none⟩) ∧
    (∀ b, b < W.heap.size → b < w1.heap.size) ∧ (∀ b, b < W.heap.size → b ≤ w1.heap.size) :=
  ⟨fun b o h => hb.cell (p := ⟨b, o, none⟩) h, fun b o h => hb.frozen (p := ⟨b, o, none⟩) h, fun _ h => Nat.lt_of_lt_of_le h hb.size, fun _ h => Nat.le_of_lt (Nat.lt_of_lt_of_le h hb.size)⟩

/-- The slice value '.slice A n _' has n elements of 'size' cells, and they read as xs. -/
structure RdSl {α : Type} (size : Nat) (R : World → Nat → Nat → α → Prop) (w : World) (A : Option Addr) (n : Nat) (xs : List α) : Prop where
  len : xs.length = n
  cells : 0 < n → ∃ b o, A = some ⟨b, o, none⟩ ∧ b < w.heap.size ∧ ∀ k (h : k < xs.length), R w b (o + k * size) xs[k]

theorem RdSl.ptr {α : Type} {size : Nat} {R : World → Nat → Nat → α → Prop} {w : World} {A : Option Addr} {n : Nat} {xs : List α} (h : RdSl size R w A n xs) (hn : 0 < n) :
    ∃ b o, A = some ⟨b, o, none⟩ ∧ b < w.heap.size ∧ ∀ k e, xs[k]? = some e → R w b (o + k * size) e := by
  obtain ⟨b, o, hA, hb, hc⟩ := h.cells hn
  exact ⟨b, o, hA, hb, fun k e he => by
    obtain ⟨hk, rfl⟩ := List.getElem?_eq_some_iff.1 he
    exact hc k hk⟩
theorem RdSl.get {α : Type} {size : Nat} {R : World → Nat → Nat → α → Prop} {w : World} {A : Option Addr} {n : Nat} {xs : List α} (h : RdSl size R w A n xs) {k : Nat} (hk : k < n) : ∃ e, xs[k]? = some e :=
  ⟨_, List.getElem?_eq_getElem (by rw [h.len]; exact hk)⟩

structure Pl where
  x : Int
  y : Int
  t : Int
  deriving DecidableEq, Inhabited

def RPl (w : World) (b o : Nat) (e : Pl) : Prop := w.cell? ⟨b, o, none⟩ = some (.int .i64 e.x) ∧ w.cell? ⟨b, o + 1, none⟩ = some (.int .i64 e.y) ∧ w.cell? ⟨b, o + 2, none⟩ = some (.int .i64 e.t)

def Stable {α : Type} (R : World → Nat → Nat → α → Prop) : Prop := ∀ w w' b o e, R w b o e → b < w.heap.size → Below w.heap.size w w' → R w' b o e

theorem RPl.stable : Stable RPl := fun _ _ _ _ _ h hb hw =>
  ⟨(hw.cell (by exact hb)).trans h.1, (hw.cell (by exact hb)).trans h.2.1, (hw.cell (by exact hb)).trans h.2.2⟩

theorem RdSl.below {α : Type} {size : Nat} {R : World → Nat → Nat → α → Prop} (hR : Stable R) {w w' : World} {A : Option Addr} {n : Nat} {xs : List α} (h : RdSl size R w A n xs) (hb : Below w.heap.size w w') : RdSl size R w' A n xs :=
  ⟨h.len, fun hn => by
    obtain ⟨b, o, e, hlt, hc⟩ := h.cells hn
    exact ⟨b, o, e, Nat.lt_of_lt_of_le hlt hb.size, fun k hk => hR _ _ _ _ _ (hc k hk) hlt hb⟩⟩

def inB (n lo hi : Int) : Bool := decide (lo ≤ n) && decide (n ≤ hi)
theorem inB_true {n lo hi : Int} : inB n lo hi = true ↔ lo ≤ n ∧ n ≤ hi := by simp [inB]
theorem inB_false {n lo hi : Int} : inB n lo hi = false ↔ ¬ (lo ≤ n ∧ n ≤ hi) := by
  rw [← inB_true]; simp

def validPt (x y : Int) : Bool := inB x (-60) 60 && inB y (-60) 60
def cmpI (a b : Int) : Int := if a < b then -1 else if b < a then 1 else 0
def orI (a b : Int) : Int := if a ≠ 0 then a else b
/-- comparePoints -/
def cmpPt (ax ay bx b_y : Int) : Int := orI (cmpI ay b_y) (cmpI ax bx)
def lessPt (ax ay bx b_y : Int) : Bool := decide (cmpPt ax ay bx b_y < 0)

/-- hasForm's test of place j -/
def okPl (xs : List Pl) (j : Nat) : Bool := match xs[j]? with
  | none => true
  | some e => validPt e.x e.y && inB e.t 0 159 && (match j with
    | 0 => true
    | i + 1 => match xs[i]? with
      | none => true
      | some d => lessPt d.x d.y e.x e.y)
def allB (n : Nat) (p : Nat → Bool) : Bool := (List.range n).all p
theorem allB_true {n : Nat} {p : Nat → Bool} (h : ∀ j, j < n → p j = true) : allB n p = true := by
  simp only [allB, List.all_eq_true, List.mem_range]; exact h
theorem allB_false {n k : Nat} {p : Nat → Bool} (hk : k < n) (h : p k = false) : allB n p = false := by
  cases hh : allB n p with
  | false => rfl
  | true =>
    simp only [allB, List.all_eq_true, List.mem_range] at hh
    rw [hh k hk] at h
    cases h
def hasFormB (xs : List Pl) : Bool := allB xs.length (okPl xs) && decide (xs.length ≤ 500)

theorem ret_eq {a b : Value} (h : a = b) : Ending.returned a = Ending.returned b := by rw [h]
theorem ret_int {k : IntKind} {a b : Int} (h : a = b) : Ending.returned (.int k a) = .returned (.int k b) := by rw [h]
theorem ret_bool {a b : Bool} (h : a = b) : Ending.returned (.bool a) = .returned (.bool b) := by rw [h]
end Go.Proofs.Ytpnahobgmemdjaa
