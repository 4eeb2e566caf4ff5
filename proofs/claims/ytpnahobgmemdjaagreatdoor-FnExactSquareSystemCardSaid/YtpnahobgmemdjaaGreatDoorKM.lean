import Derived.Test.YtpnahobgmemdjaaGreatDoorKH
import Derived.Lib.ItoaMem
import Derived.Test.YtpnahobgmemdjaaGreatDoorW8
set_option linter.unusedSimpArgs false
set_option linter.unusedVariables false
/- Plain: numerals in names. -/


namespace Go.Proofs.YtpnahobgmemdjaaGreatDoor
open Go.RowKit
def decN (u : Nat) : ByteArray := ⟨(Lib.decDigits u).toArray⟩
theorem decDigits_lt {u : Nat} (h : u < 1000) : (Lib.decDigits u).length ≤ 3 := by
  rw [Lib.decDigits_length]
  rcases Nat.lt_or_ge u 10 with h1 | h1
  · rw [Lib.nDigits_small h1]; omega
  · rw [Lib.nDigits_big (by omega)]
    rcases Nat.lt_or_ge (u / 10) 10 with h2 | h2
    · rw [Lib.nDigits_small h2]; omega
    · rw [Lib.nDigits_big (by omega), Lib.nDigits_small (by omega)]; omega
theorem decN_size {u : Nat} (h : u < 1000) : (decN u).size ≤ 3 := decDigits_lt h
theorem mkDig_dec : ∀ (f j : Nat) (s : ByteArray), 0 < j → j < f → mkDig f j s = decN j ++ s
  | 0, j, s, _, h => by omega
  | f + 1, j, s, h0, h => by
    rw [mkDig_pos _ _ _ h0]
    rcases Nat.lt_or_ge j 10 with h1 | h1
    · rw [show j / 10 = 0 by omega, mkDig_zero]
      unfold decN digB
      rw [Lib.decDigits_one h1, show j % 10 = j by omega]
    · rw [mkDig_dec f (j / 10) _ (by omega) (by omega), ← ByteArray.append_assoc]
      congr 1
      unfold decN digB
      rw [Lib.decDigits.eq_1 j, dif_neg (by omega)]
      apply ByteArray.ext
      simp
/-- a word and two numerals -/
def pairN (wd : ByteArray) (a b : Nat) : ByteArray := wd ++ decN a ++ ⟨#[95]⟩ ++ decN b
end Go.Proofs.YtpnahobgmemdjaaGreatDoor
/- Plain: names of glues and tiles by codes; the number of a glue's name; sets made by names. -/

namespace Go.Proofs.YtpnahobgmemdjaaGreatDoor
open Go.RowKit
/-- the number of a glue's name: its first place plus one; 0 if it is none -/
def numG (gs : List Gl) (s : ByteArray) : Nat := match gs.findIdx? (fun g => decide (g.name = s)) with
  | some i => i + 1
  | none => 0
theorem numG_nil (s : ByteArray) : numG [] s = 0 := rfl
theorem numG_off {gs : List Gl} {s : ByteArray} (h : ∀ g ∈ gs, g.name ≠ s) : numG gs s = 0 := by
  have : gs.findIdx? (fun g => decide (g.name = s)) = none := by
    rw [List.findIdx?_eq_none_iff]
    intro g hg
    simpa using h g hg
  unfold numG
  rw [this]
theorem numG_le (gs : List Gl) (s : ByteArray) : numG gs s ≤ gs.length := by
  unfold numG
  split
  · rename_i i h
    obtain ⟨h1, _⟩ := List.findIdx?_eq_some_iff_getElem.1 h
    omega
  · omega
theorem numG_at {gs : List Gl} {s : ByteArray} {k : Nat} {e : Gl} (he : gs[k]? = some e) (hn : e.name = s) (hb : ∀ j, j < k → ∀ e, gs[j]? = some e → e.name ≠ s) : numG gs s = k + 1 := by
  obtain ⟨hk, hke⟩ := List.getElem?_eq_some_iff.1 he
  have : gs.findIdx? (fun g => decide (g.name = s)) = some k := by
    rw [List.findIdx?_eq_some_iff_getElem]
    refine ⟨hk, by rw [hke]; simpa using hn, fun j hj => ?_⟩
    have := hb j hj _ (List.getElem?_eq_getElem (by omega))
    simpa using this
  unfold numG
  rw [this]
theorem numG_none {gs : List Gl} {s : ByteArray} (hb : ∀ j, j < gs.length → ∀ e, gs[j]? = some e → e.name ≠ s) : numG gs s = 0 :=
  numG_off fun g hg => by
    obtain ⟨j, hj, rfl⟩ := List.mem_iff_getElem.1 hg
    exact hb j hj _ (List.getElem?_eq_getElem hj)
theorem numG_snoc (gs : List Gl) (g : Gl) (t : ByteArray) (h0 : numG gs g.name = 0) : numG (gs ++ [g]) t = if t = g.name then gs.length + 1 else numG gs t := by
  unfold numG at h0 ⊢
  rw [List.findIdx?_append]
  cases hq : gs.findIdx? (fun e => decide (e.name = t)) with
  | some i =>
    simp only [Option.some_or]
    rw [if_neg (fun e => by subst e; rw [hq] at h0; simp at h0)]
  | none =>
    simp only [Option.none_or]
    by_cases e : t = g.name
    · subst e; simp [List.findIdx?_cons]
    · have : decide (g.name = t) = false := by simpa using fun h => e h.symm
      simp [List.findIdx?_cons, this, e]
/-- the state of a maker: glues and tiles -/
def addG (st : List Gl × List Ti) (nm : ByteArray) (s : Int) : List Gl × List Ti := (st.1 ++ [⟨nm, s⟩], st.2)
def sidesG (gs : List Gl) (l : List ByteArray) : List Int := l.map fun s => (numG gs s : Int)
def addT (st : List Gl × List Ti) (nm : ByteArray) (l : List ByteArray) : List Gl × List Ti := (st.1, st.2 ++ [⟨nm, sidesG st.1 l⟩])
/-- codes of names: kind and two numbers -/
abbrev Cd := Nat × Nat × Nat
def digT (u : Nat) : ByteArray := if u < 10 then ⟨#[UInt8.ofNat (48 + u)]⟩ else ⟨#[UInt8.ofNat (48 + u / 10), UInt8.ofNat (48 + u % 10)]⟩
theorem decN_T {u : Nat} (h : u < 100) : decN u = digT u := by
  unfold decN digT
  split
  · rename_i h1
    rw [Lib.decDigits_one h1]
  · rename_i h1
    rw [Lib.decDigits.eq_1 u, dif_neg (by omega), Lib.decDigits_one (by omega)]
    rfl
end Go.Proofs.YtpnahobgmemdjaaGreatDoor
/- Maps from names to numbers that a call makes. -/


namespace Go.Proofs.YtpnahobgmemdjaaGreatDoor
open Go.RowKit Go.Shelf
attribute [local go_sem] BelowBy.cell BelowBy.cell_drew stillUpon givesUpon
open Go.Maps (Keyed)
open Go.WideMaps (keyOf_string_mk)
/-- block b is a map from names to numbers: M; at most n were laid in -/
def NMap (w : World) (b n : Nat) (M : ByteArray → Nat) : Prop :=
  ∃ D : DataW Unit, w.ownsMap Tryz.prog 9 (plainElem Tryz.prog 2) b n D ∧ ∀ s : ByteArray, D.atKey (.string s.data.toList) (.lit (.int .i64 0)) = .lit (.int .i64 (M s : Int))
section
variable {w w' : World} {b n : Nat} {M M' : ByteArray → Nat}
theorem NMap.made (w : World) : NMap (w.alloc (.map #[] 0)) w.heap.size 0 (fun _ => 0) :=
  ⟨_, World.ownsMap_made _ _ _ _, fun s => WideAt.atKey_none _ (fun p hp => by simp at hp)⟩
theorem NMap.lt (h : NMap w b n M) : b < w.heap.size := by
  obtain ⟨D, h, _⟩ := h
  exact h.lt
theorem NMap.block (h : NMap w b n M) (hb : w'.heap[b]? = w.heap[b]?) : NMap w' b n M := by
  obtain ⟨D, ⟨es, clock, hh, r⟩, h2⟩ := h
  exact ⟨D, ⟨es, clock, hb.trans hh, r⟩, h2⟩
theorem NMap.below (h : NMap w b n M) (hb : Below w.heap.size w w') : NMap w' b n M := h.block (hb.block b h.lt)
theorem NMap.kept {row : Option Nat} (h : NMap w b n M) (hg : w.grownBy w' row) (hne : some b ≠ row) : NMap w' b n M := h.block (hg.block b h.lt hne)
theorem NMap.say (h : NMap w b n M) (hN : ∀ s, M s = M' s) : NMap w b n M' := by
  obtain rfl : M = M' := funext hN
  exact h
/-- the block is a map -/
theorem NMap.isMap (h : NMap w b n M) : ∃ es clock, w.heap[b]? = some (.map es clock) := by
  obtain ⟨D, ⟨es, clock, hh, r⟩, _⟩ := h
  exact ⟨es, clock, hh⟩
end
theorem zero_i64 (w : World) : (zeroValue 2).run Tryz.prog w = .ok (.int .i64 0) w := by kernel_rfl
theorem wf_nat {k : Nat} (h1 : k ≤ 1000000000) : (Lit.int .i64 (k : Int)).wf = true := by
  simp [Lit.wf, IntKind.min, IntKind.max, IntKind.bits, IntKind.signed]; omega
section
variable {ops : Array Oper} {rest : List Oper} {o : Oper} {a : Act} {Q : Exit → Act → World → Prop}
theorem NMap.run {w : World} {b n : Nat} {M : ByteArray → Nat} (h : NMap w b n M) (s : ByteArray) (hs : s.size ≤ maxLen) : (Instr.lookup 48 (.map (some b)) (.string s) false).run Tryz.prog w = .ok (.int .i64 (M s : Int)) w := by
  obtain ⟨D, hown, hat⟩ := h
  obtain ⟨c, hrun, hc, _⟩ := hown.lookup_int names_keyed Tryz.underlying48 Tryz.underlying2 (zero_i64 w) (keyOf_string_mk Tryz.underlying9 hs)
  rw [hat s] at hc
  have hc2 : (M s : Int) = c := (Lit.int.inj (DataW.lit.inj hc)).2
  rw [hc2]; exact hrun
/-- a look-up in a region that draws its order -/
theorem wpD_lookN {ops : Array Oper} {rest : List (Oper × Tag)} {o : Oper} {a : Act} {Q : Act → World → Prop} {w : World} (hw : Region.wanted o (yielded ops a.tmps) = true) (m k : Operand) (hop : o.op = Op.lookup 48 m k false) (b n : Nat) (M : ByteArray → Nat) (hm : a.eval m = .map (some b)) (h : NMap w b n M) (s : ByteArray) (hs : s.size ≤ maxLen) (hk : a.eval k = .string s)
    (hK : wpD Tryz.prog ops Q rest (a.put o.dst (.int .i64 (M s : Int))) w) : wpD Tryz.prog ops Q ((o, .q) :: rest) a w := by
  simp only [wpD, hw, if_true]
  refine ⟨.int .i64 (M s : Int), fun p => ?_, hK⟩
  have hrun := (h.below p.h).run s hs
  unfold stillUpon
  simp only [execOp, hop, hm, hk, Sem.run_bind, Sem.run_pure, hrun, Result.andThen_ok]
  first | trivial | exact ⟨trivial, trivial⟩ | exact ⟨trivial, rfl⟩ | exact ⟨rfl, trivial⟩ | exact ⟨rfl, rfl⟩
theorem names_inj {s t : ByteArray} (h : Lit.string t.data.toList = Lit.string s.data.toList) : t = s := by
  injection h with h
  cases t; cases s
  simp only [ByteArray.mk.injEq]
  exact Array.toList_inj.1 h
theorem NMap.put {w : World} {b n : Nat} {M : ByteArray → Nat} (h : NMap w b n M) (s : ByteArray) (hs : s.size ≤ maxLen) (u : Nat) (hu : u ≤ 1000000000) (hn : n < maxLen) :
    ∃ w', (Instr.mapUpdate 48 (.map (some b)) (.string s) (.int .i64 (u : Int))).run Tryz.prog w = .ok () w' ∧ NMap w' b (n + 1) (fun t => if t = s then u else M t) ∧ w.grownBy w' (some b) := by
  obtain ⟨D, hown, hat⟩ := h
  obtain ⟨w', hrun, h1, h2⟩ := hown.update names_keyed Tryz.underlying48 hn (keyOf_string_mk Tryz.underlying9 hs) (plainElem_int Tryz.underlying2 (wf_nat hu))
  refine ⟨w', hrun, ⟨_, h1, fun t => ?_⟩, h2⟩
  by_cases ht : t = s
  · subst ht
    rw [Maps.atKey_put_same hown.isMap (by simp [WideAt.IsKeyLit])]
    simp
  · rw [Maps.atKey_put_other (fun hh => ht (names_inj hh)), hat t]
    simp [ht]
/-- an update in a region that draws its order -/
theorem wpD_putN {ops : Array Oper} {rest : List (Oper × Tag)} {o : Oper} {a : Act} {Q : Act → World → Prop} {w : World} (hw : Region.wanted o (yielded ops a.tmps) = true) (m k v : Operand) (hop : o.op = Op.mapUpdate 48 m k v) (b n : Nat) (M : ByteArray → Nat) (hm : a.eval m = .map (some b)) (h : NMap w b n M) (s : ByteArray) (hs : s.size ≤ maxLen) (u : Nat) (hu : u ≤ 1000000000) (hn : n < maxLen) (hk : a.eval k = .string s) (hv : a.eval v = .int .i64 (u : Int))
    (hK : ∀ w', NMap w' b (n + 1) (fun t => if t = s then u else M t) → w.grownBy w' (some b) → wpD Tryz.prog ops Q rest (a.put o.dst undef) w') : wpD Tryz.prog ops Q ((o, .b) :: rest) a w := by
  obtain ⟨w', hrun, h1, h2⟩ := h.put s hs u hu hn
  simp only [wpD, hw, if_true]
  unfold givesUpon
  simp only [execOp, hop, hm, hk, hv, Sem.run_bind, Sem.run_pure, hrun, Result.andThen_ok]
  exact hK w' h1 h2
end
end Go.Proofs.YtpnahobgmemdjaaGreatDoor
