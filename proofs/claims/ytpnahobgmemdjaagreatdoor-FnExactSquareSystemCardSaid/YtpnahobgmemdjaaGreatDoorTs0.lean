/- Plain: names of a square's glues and tiles are apart; its set. -/
import Derived.Test.YtpnahobgmemdjaaGreatDoorKM
namespace Go.Proofs.YtpnahobgmemdjaaGreatDoor
open Go.RowKit
set_option linter.unusedSimpArgs false
set_option linter.unusedVariables false
def prfQ (p : Nat) : ByteArray := if p = 0 then ⟨#[110]⟩ else ⟨#[101]⟩
/-- v0 v1 c0 c1 up go edge turn next -/
def wdG : Nat → ByteArray
  | 0 => ⟨#[118, 48]⟩
  | 1 => ⟨#[118, 49]⟩
  | 2 => ⟨#[99, 48]⟩
  | 3 => ⟨#[99, 49]⟩
  | 4 => ⟨#[117, 112]⟩
  | 5 => ⟨#[103, 111]⟩
  | 6 => ⟨#[101, 100, 103, 101]⟩
  | 7 => ⟨#[116, 117, 114, 110]⟩
  | _ => ⟨#[110, 101, 120, 116]⟩
/-- d0c0 d0c1 d1c0 d1c1 stay stop turned copy0 copy1 end add -/
def wdT : Nat → ByteArray
  | 0 => ⟨#[100, 48, 99, 48]⟩
  | 1 => ⟨#[100, 48, 99, 49]⟩
  | 2 => ⟨#[100, 49, 99, 48]⟩
  | 3 => ⟨#[100, 49, 99, 49]⟩
  | 4 => ⟨#[115, 116, 97, 121]⟩
  | 5 => ⟨#[115, 116, 111, 112]⟩
  | 6 => ⟨#[116, 117, 114, 110, 101, 100]⟩
  | 7 => ⟨#[99, 111, 112, 121, 48]⟩
  | 8 => ⟨#[99, 111, 112, 121, 49]⟩
  | 9 => ⟨#[101, 110, 100]⟩
  | _ => ⟨#[97, 100, 100]⟩
/-- glues: 0 of a counter, 1 fill, 2 in, 3 sn, 4 se -/
def gqW (d : Nat → ByteArray) (c : Cd) : ByteArray :=
  if c.1 = 0 then prfQ c.2.1 ++ wdG c.2.2 else if c.1 = 1 then ⟨#[102, 105, 108, 108]⟩ else if c.1 = 2 then ⟨#[105, 110]⟩ else if c.1 = 3 then ⟨#[115, 110]⟩ ++ d c.2.1 else ⟨#[115, 101]⟩ ++ d c.2.1
/-- tiles: 0 of a counter, 1 outer, 2 inner, 3 nleft, 4 eleft, 5 nstart, 6 estart, 7 core -/
def tqW (d : Nat → ByteArray) (c : Cd) : ByteArray :=
  if c.1 = 0 then prfQ c.2.1 ++ wdT c.2.2 else if c.1 = 1 then ⟨#[111, 117, 116, 101, 114]⟩ else if c.1 = 2 then ⟨#[105, 110, 110, 101, 114]⟩ else if c.1 = 3 then ⟨#[110, 108, 101, 102, 116]⟩ else if c.1 = 4 then ⟨#[101, 108, 101, 102, 116]⟩ else if c.1 = 5 then ⟨#[110, 115, 116, 97, 114, 116]⟩ ++ d c.2.1 else if c.1 = 6 then ⟨#[101, 115, 116, 97, 114, 116]⟩ ++ d c.2.1 else ⟨#[99, 111, 114, 101]⟩
theorem gqW_eq {d e : Nat → ByteArray} {c : Cd} (h1 : d c.2.1 = e c.2.1) : gqW d c = gqW e c := by simp only [gqW, h1]
theorem tqW_eq {d e : Nat → ByteArray} {c : Cd} (h1 : d c.2.1 = e c.2.1) : tqW d c = tqW e c := by simp only [tqW, h1]
def gqn : Cd → ByteArray := gqW decN
def tqn : Cd → ByteArray := tqW decN
def gV : List Cd := (List.range 2).flatMap (fun p => (List.range 9).map fun j => (0, p, j)) ++ [(1, 0, 0), (2, 0, 0)] ++ (List.range 6).map (fun k => (3, k, 0)) ++ (List.range 6).map (fun k => (4, k, 0))
def tV : List Cd := (List.range 2).flatMap (fun p => (List.range 11).map fun j => (0, p, j)) ++ [(1, 0, 0), (2, 0, 0), (3, 0, 0), (4, 0, 0)] ++ (List.range 5).map (fun k => (5, k, 0)) ++ (List.range 5).map (fun k => (6, k, 0)) ++ [(7, 0, 0)]
theorem gV_small : (gV.all fun c => decide (c.2.1 < 100 ∧ c.2.2 < 100)) = true := by decide +kernel
theorem tV_small : (tV.all fun c => decide (c.2.1 < 100 ∧ c.2.2 < 100)) = true := by decide +kernel
theorem gV_inj : (gV.all fun c => gV.all fun e => decide (gqW digT c = gqW digT e → c = e)) = true := by decide +kernel
theorem tV_inj : (tV.all fun c => tV.all fun e => decide (tqW digT c = tqW digT e → c = e)) = true := by decide +kernel
theorem gV_dash : (gV.all fun c => decide (gqW digT c ≠ ⟨#[45]⟩ ∧ gqW digT c ≠ ⟨#[]⟩)) = true := by decide +kernel
theorem gV_size : (gV.all fun c => decide ((gqW digT c).size ≤ 10)) = true := by decide +kernel
theorem tV_size : (tV.all fun c => decide ((tqW digT c).size ≤ 10)) = true := by decide +kernel
theorem gqn_T {c : Cd} (h : c ∈ gV) : gqn c = gqW digT c := by
  have := List.all_eq_true.1 gV_small c h
  simp only [decide_eq_true_eq] at this
  exact gqW_eq (decN_T this.1)
theorem tqn_T {c : Cd} (h : c ∈ tV) : tqn c = tqW digT c := by
  have := List.all_eq_true.1 tV_small c h
  simp only [decide_eq_true_eq] at this
  exact tqW_eq (decN_T this.1)
theorem gqn_inj {c e : Cd} (h : c ∈ gV) (h2 : e ∈ gV) (he : gqn c = gqn e) : c = e := by
  have := List.all_eq_true.1 (List.all_eq_true.1 gV_inj c h) e h2
  simp only [decide_eq_true_eq] at this
  rw [gqn_T h, gqn_T h2] at he
  exact this he
theorem tqn_inj {c e : Cd} (h : c ∈ tV) (h2 : e ∈ tV) (he : tqn c = tqn e) : c = e := by
  have := List.all_eq_true.1 (List.all_eq_true.1 tV_inj c h) e h2
  simp only [decide_eq_true_eq] at this
  rw [tqn_T h, tqn_T h2] at he
  exact this he
theorem gqn_size {c : Cd} (h : c ∈ gV) : (gqn c).size ≤ 10 := by
  have := List.all_eq_true.1 gV_size c h
  simp only [decide_eq_true_eq] at this
  rw [gqn_T h]; exact this
theorem tqn_size {c : Cd} (h : c ∈ tV) : (tqn c).size ≤ 10 := by
  have := List.all_eq_true.1 tV_size c h
  simp only [decide_eq_true_eq] at this
  rw [tqn_T h]; exact this
def gsq (c : Cd) : Int := if (c.1 = 0 ∧ 7 ≤ c.2.2) ∨ 3 ≤ c.1 then 2 else 1
def glQ (cs : List Cd) : List Gl := cs.map fun c => ⟨gqn c, gsq c⟩
theorem glQ_snoc (cs : List Cd) (c : Cd) : glQ (cs ++ [c]) = glQ cs ++ [⟨gqn c, gsq c⟩] := by simp [glQ]
theorem glQ_len (cs : List Cd) : (glQ cs).length = cs.length := by simp [glQ]
theorem fresh_q {cs : List Cd} {c : Cd} (hcs : ∀ d ∈ cs, d ∈ gV) (hc : c ∈ gV) (hn : c ∉ cs) : numG (glQ cs) (gqn c) = 0 :=
  numG_off fun g hg he => by
    obtain ⟨d, hd, rfl⟩ := List.mem_map.1 hg
    exact hn (gqn_inj (hcs d hd) hc he ▸ hd)
theorem num_dashQ {cs : List Cd} (hcs : ∀ d ∈ cs, d ∈ gV) : numG (glQ cs) ⟨#[45]⟩ = 0 ∧ numG (glQ cs) ⟨#[]⟩ = 0 := by
  refine ⟨numG_off fun g hg he => ?_, numG_off fun g hg he => ?_⟩ <;>
    · obtain ⟨d, hd, rfl⟩ := List.mem_map.1 hg
      have := List.all_eq_true.1 gV_dash d (hcs d hd)
      simp only [decide_eq_true_eq] at this
      have h2 : gqn d = _ := he
      rw [gqn_T (hcs d hd)] at h2
      first | exact this.1 h2 | exact this.2 h2
/-- a side: the number of a glue by its code, 0 for none -/
def sdQ (gs : List Gl) (o : Option Cd) : Int := match o with
  | none => 0
  | some c => (numG gs (gqn c) : Int)
def tlQ (gs : List Gl) (c : Cd) (l : List (Option Cd)) : Ti := ⟨tqn c, l.map (sdQ gs)⟩
theorem gV_mem : ∀ c : Cd, c ∈ gV ↔ (c.1 = 0 ∧ c.2.1 < 2 ∧ c.2.2 < 9) ∨ ((c.1 = 1 ∨ c.1 = 2) ∧ c.2.1 = 0 ∧ c.2.2 = 0) ∨ ((c.1 = 3 ∨ c.1 = 4) ∧ c.2.1 < 6 ∧ c.2.2 = 0) := by
  rintro ⟨k, x, y⟩
  simp only [gV, List.mem_append, List.mem_map, List.mem_flatMap, List.mem_range, List.mem_cons, Prod.mk.injEq, List.not_mem_nil, or_false]
  constructor
  · rintro (((⟨q, hq, i, hi, rfl, rfl, rfl⟩ | h) | ⟨i, hi, rfl, rfl, rfl⟩) | ⟨i, hi, rfl, rfl, rfl⟩)
    · exact .inl ⟨rfl, hq, hi⟩
    · omega
    · exact .inr (.inr ⟨.inl rfl, hi, rfl⟩)
    · exact .inr (.inr ⟨.inr rfl, hi, rfl⟩)
  · rintro (⟨rfl, h, h2⟩ | ⟨h1, rfl, rfl⟩ | ⟨rfl | rfl, h, rfl⟩)
    · exact .inl (.inl (.inl ⟨x, h, y, h2, rfl, rfl, rfl⟩))
    · exact .inl (.inl (.inr (by omega)))
    · exact .inl (.inr ⟨x, h, rfl, rfl, rfl⟩)
    · exact .inr ⟨x, h, rfl, rfl, rfl⟩
theorem tV_mem : ∀ c : Cd, c ∈ tV ↔ (c.1 = 0 ∧ c.2.1 < 2 ∧ c.2.2 < 11) ∨ ((c.1 = 1 ∨ c.1 = 2 ∨ c.1 = 3 ∨ c.1 = 4 ∨ c.1 = 7) ∧ c.2.1 = 0 ∧ c.2.2 = 0) ∨ ((c.1 = 5 ∨ c.1 = 6) ∧ c.2.1 < 5 ∧ c.2.2 = 0) := by
  rintro ⟨k, x, y⟩
  simp only [tV, List.mem_append, List.mem_map, List.mem_flatMap, List.mem_range, List.mem_cons, Prod.mk.injEq, List.not_mem_nil, or_false]
  constructor
  · rintro ((((⟨q, hq, i, hi, rfl, rfl, rfl⟩ | h) | ⟨i, hi, rfl, rfl, rfl⟩) | ⟨i, hi, rfl, rfl, rfl⟩) | h)
    · exact .inl ⟨rfl, hq, hi⟩
    · omega
    · exact .inr (.inr ⟨.inl rfl, hi, rfl⟩)
    · exact .inr (.inr ⟨.inr rfl, hi, rfl⟩)
    · omega
  · rintro (⟨rfl, h, h2⟩ | ⟨h1, rfl, rfl⟩ | ⟨rfl | rfl, h, rfl⟩)
    · exact .inl (.inl (.inl (.inl ⟨x, h, y, h2, rfl, rfl, rfl⟩)))
    · rcases h1 with h1 | h1 | h1 | h1 | h1
      · exact .inl (.inl (.inl (.inr (by omega))))
      · exact .inl (.inl (.inl (.inr (by omega))))
      · exact .inl (.inl (.inl (.inr (by omega))))
      · exact .inl (.inl (.inl (.inr (by omega))))
      · exact .inr (by omega)
    · exact .inl (.inl (.inr ⟨x, h, rfl, rfl, rfl⟩))
    · exact .inl (.inr ⟨x, h, rfl, rfl, rfl⟩)
theorem in_gV {c : Cd} (h : (c.1 = 0 ∧ c.2.1 < 2 ∧ c.2.2 < 9) ∨ ((c.1 = 1 ∨ c.1 = 2) ∧ c.2.1 = 0 ∧ c.2.2 = 0) ∨ ((c.1 = 3 ∨ c.1 = 4) ∧ c.2.1 < 6 ∧ c.2.2 = 0)) : c ∈ gV := (gV_mem c).2 h
theorem in_tV {c : Cd} (h : (c.1 = 0 ∧ c.2.1 < 2 ∧ c.2.2 < 11) ∨ ((c.1 = 1 ∨ c.1 = 2 ∨ c.1 = 3 ∨ c.1 = 4 ∨ c.1 = 7) ∧ c.2.1 = 0 ∧ c.2.2 = 0) ∨ ((c.1 = 5 ∨ c.1 = 6) ∧ c.2.1 < 5 ∧ c.2.2 = 0)) : c ∈ tV := (tV_mem c).2 h
/-- sides of the counter's tiles: north, east, south, west -/
def cntS (p : Nat) : Nat → List (Option Cd)
  | 0 => [some (0, p, 0), some (0, p, 2), some (0, p, 0), some (0, p, 2)]
  | 1 => [some (0, p, 1), some (0, p, 3), some (0, p, 0), some (0, p, 2)]
  | 2 => [some (0, p, 1), some (0, p, 2), some (0, p, 1), some (0, p, 2)]
  | 3 => [some (0, p, 0), some (0, p, 3), some (0, p, 1), some (0, p, 3)]
  | 4 => [some (0, p, 7), some (0, p, 2), some (0, p, 4), none]
  | 5 => [none, some (0, p, 3), some (0, p, 4), none]
  | 6 => [some (0, p, 4), some (0, p, 5), some (0, p, 7), none]
  | 7 => [some (0, p, 0), some (0, p, 5), some (0, p, 0), some (0, p, 5)]
  | 8 => [some (0, p, 1), some (0, p, 5), some (0, p, 1), some (0, p, 5)]
  | 9 => [some (0, p, 8), some (1, 0, 0), some (0, p, 6), some (0, p, 5)]
  | _ => [some (0, p, 6), some (1, 0, 0), some (0, p, 8), some (0, p, 3)]
/-- north and east, south and west exchanged -/
def trnQ {α : Type} (p : Nat) (l : List α) : List α := if p = 0 then l else match l with
  | [a, b, c, d] => [b, a, d, c]
  | l => l
def cntT (gs : List Gl) (p : Nat) (n : Nat) : List Ti := (List.range n).map fun j => tlQ gs (0, p, j) (trnQ p (cntS p j))
theorem cntT_succ (gs : List Gl) (p n : Nat) : cntT gs p (n + 1) = cntT gs p n ++ [tlQ gs (0, p, n) (trnQ p (cntS p n))] := by simp [cntT, List.range_succ]
theorem cntT_len (gs : List Gl) (p n : Nat) : (cntT gs p n).length = n := by simp [cntT]
def cC (p n : Nat) : List Cd := (List.range n).map fun j => (0, p, j)
theorem cC_succ (p n : Nat) : cC p (n + 1) = cC p n ++ [(0, p, n)] := by simp [cC, List.range_succ]
theorem mem_cC {p n : Nat} {c : Cd} : c ∈ cC p n ↔ c.1 = 0 ∧ c.2.1 = p ∧ c.2.2 < n := by
  obtain ⟨k, x, y⟩ := c
  simp only [cC, List.mem_map, List.mem_range, Prod.mk.injEq]
  constructor
  · rintro ⟨i, hi, rfl, rfl, rfl⟩; exact ⟨rfl, rfl, hi⟩
  · rintro ⟨rfl, rfl, h⟩; exact ⟨y, h, rfl, rfl, rfl⟩
theorem cC_len (p n : Nat) : (cC p n).length = n := by simp [cC]
def cS (i n : Nat) : List Cd := (List.range n).map fun k => (i, k, 0)
theorem cS_succ (i n : Nat) : cS i (n + 1) = cS i n ++ [(i, n, 0)] := by simp [cS, List.range_succ]
theorem mem_cS {i n : Nat} {c : Cd} : c ∈ cS i n ↔ c.1 = i ∧ c.2.1 < n ∧ c.2.2 = 0 := by
  obtain ⟨k, x, y⟩ := c
  simp only [cS, List.mem_map, List.mem_range, Prod.mk.injEq]
  constructor
  · rintro ⟨j, hj, rfl, rfl, rfl⟩; exact ⟨rfl, hj, rfl⟩
  · rintro ⟨rfl, h, rfl⟩; exact ⟨x, h, rfl, rfl, rfl⟩
theorem cS_len (i n : Nat) : (cS i n).length = n := by simp [cS]
def c0Q : List Cd := [(1, 0, 0), (2, 0, 0)]
/-- digits and steps of a square's counters -/
def okP (side d : Nat) : Bool := decide ((side - d - 1) % 2 = 0 ∧ d + 1 ≤ side ∧ (side - d - 1) / 2 ≤ 2 ^ d)
def dgP (side : Nat) : Nat := ((List.range 6).find? fun d => decide (1 ≤ d) && okP side d).getD 0
def stP (side : Nat) : Nat := (side - dgP side - 1) / 2
theorem parts_all : ((List.range 23).all fun s => decide (4 ≤ s → 1 ≤ dgP s ∧ dgP s ≤ 5 ∧ okP s (dgP s) = true ∧ 1 ≤ stP s ∧ stP s ≤ 2 ^ dgP s ∧ dgP s + 1 ≤ s)) = true := by decide +kernel
theorem parts_ok {s : Nat} (h1 : 4 ≤ s) (h2 : s ≤ 22) : 1 ≤ dgP s ∧ dgP s ≤ 5 ∧ okP s (dgP s) = true ∧ 1 ≤ stP s ∧ stP s ≤ 2 ^ dgP s ∧ dgP s + 1 ≤ s := by
  have := List.all_eq_true.1 parts_all s (List.mem_range.2 (by omega))
  simp only [decide_eq_true_eq] at this
  exact this h1
theorem parts_no_all : ((List.range 23).all fun s => (List.range 6).all fun d => decide (4 ≤ s → 1 ≤ d → d < dgP s → okP s d = false)) = true := by decide +kernel
theorem parts_no {s d : Nat} (h1 : 4 ≤ s) (h2 : s ≤ 22) (h3 : 1 ≤ d) (h4 : d < dgP s) : okP s d = false := by
  have h := List.all_eq_true.1 parts_no_all s (List.mem_range.2 (by omega))
  have := List.all_eq_true.1 h d (List.mem_range.2 (by have := (parts_ok h1 h2).2.1; omega))
  simp only [decide_eq_true_eq] at this
  exact this h1 h3 h4
/-- the digits of a number, base 2, the highest first -/
def bitsQ (d n : Nat) : List Int := (List.range d).map fun i => ((n / 2 ^ (d - 1 - i) % 2 : Nat) : Int)
theorem bitsQ_len (d n : Nat) : (bitsQ d n).length = d := by simp [bitsQ]
theorem bitsQ_get {d n i : Nat} (h : i < d) : (bitsQ d n)[i]? = some ((n / 2 ^ (d - 1 - i) % 2 : Nat) : Int) := by
  unfold bitsQ
  rw [List.getElem?_map, List.getElem?_range h]; rfl
end Go.Proofs.YtpnahobgmemdjaaGreatDoor
