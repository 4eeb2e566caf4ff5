import Derived.Test.YtkiamhpapkgboaaDoorKM
import Derived.Test.YtkiamhpapkgboaaDoorW8
import Derived.Test.YtkiamhpapkgboaaDoorW17a
set_option linter.unusedSimpArgs false
set_option linter.unusedVariables false
/- Plain: names of a machine's glues and tiles are apart; its set. -/

namespace Go.Proofs.YtkiamhpapkgboaaDoor
open Go.RowKit
def pairW (d : Nat → ByteArray) (wd : ByteArray) (a b : Nat) : ByteArray := wd ++ d a ++ ⟨#[95]⟩ ++ d b
/-- glues: 0 a, 1 m, 2 h, 3 l, 4 r, 5 bl, 6 br, 7 z -/
def gnmW (d : Nat → ByteArray) (c : Cd) : ByteArray :=
  if c.1 = 0 then ⟨#[97]⟩ ++ d c.2.1 else if c.1 = 1 then ⟨#[109]⟩ ++ d c.2.1 else if c.1 = 2 then pairW d ⟨#[104]⟩ c.2.1 c.2.2 else if c.1 = 3 then ⟨#[108]⟩ else if c.1 = 4 then ⟨#[114]⟩ else if c.1 = 5 then ⟨#[98, 108]⟩ else if c.1 = 6 then ⟨#[98, 114]⟩ else ⟨#[122]⟩ ++ d c.2.1
/-- tiles: 0 do, 1 inw, 2 ine, 3 east, 4 west, 5 left, 6 right, 7 first, 8 cell, 9 last -/
def tnmW (d : Nat → ByteArray) (c : Cd) : ByteArray :=
  if c.1 = 0 then pairW d ⟨#[100, 111]⟩ c.2.1 c.2.2 else if c.1 = 1 then pairW d ⟨#[105, 110, 119]⟩ c.2.1 c.2.2 else if c.1 = 2 then pairW d ⟨#[105, 110, 101]⟩ c.2.1 c.2.2 else if c.1 = 3 then ⟨#[101, 97, 115, 116]⟩ ++ d c.2.1 else if c.1 = 4 then ⟨#[119, 101, 115, 116]⟩ ++ d c.2.1 else if c.1 = 5 then ⟨#[108, 101, 102, 116]⟩ else if c.1 = 6 then ⟨#[114, 105, 103, 104, 116]⟩ else if c.1 = 7 then ⟨#[102, 105, 114, 115, 116]⟩ else if c.1 = 8 then ⟨#[99, 101, 108, 108]⟩ ++ d c.2.1 else ⟨#[108, 97, 115, 116]⟩
theorem gnmW_eq {d e : Nat → ByteArray} {c : Cd} (h1 : d c.2.1 = e c.2.1) (h2 : d c.2.2 = e c.2.2) : gnmW d c = gnmW e c := by simp only [gnmW, pairW, h1, h2]
theorem tnmW_eq {d e : Nat → ByteArray} {c : Cd} (h1 : d c.2.1 = e c.2.1) (h2 : d c.2.2 = e c.2.2) : tnmW d c = tnmW e c := by simp only [tnmW, pairW, h1, h2]
def gnm : Cd → ByteArray := gnmW decN
def tnm : Cd → ByteArray := tnmW decN
def gU : List Cd := (List.range 4).map (fun i => (0, i, 0)) ++ (List.range 5).map (fun q => (1, q, 0)) ++ (List.range 5).flatMap (fun q => (List.range 4).map fun i => (2, q, i)) ++ [(3, 0, 0), (4, 0, 0), (5, 0, 0), (6, 0, 0)] ++ (List.range 13).map (fun k => (7, k, 0))
def tU : List Cd := (List.range 3).flatMap (fun k => (List.range 5).flatMap (fun q => (List.range 4).map fun i => (k, q, i))) ++ (List.range 4).map (fun i => (3, i, 0)) ++ (List.range 4).map (fun i => (4, i, 0)) ++ [(5, 0, 0), (6, 0, 0), (7, 0, 0), (9, 0, 0)] ++ (List.range 12).map (fun k => (8, k, 0))
theorem gU_small : (gU.all fun c => decide (c.2.1 < 100 ∧ c.2.2 < 100)) = true := by decide +kernel
theorem tU_small : (tU.all fun c => decide (c.2.1 < 100 ∧ c.2.2 < 100)) = true := by decide +kernel
theorem gU_inj : (gU.all fun c => gU.all fun e => decide (gnmW digT c = gnmW digT e → c = e)) = true := by decide +kernel
theorem tU_inj : (tU.all fun c => tU.all fun e => decide (tnmW digT c = tnmW digT e → c = e)) = true := by decide +kernel
theorem gU_dash : (gU.all fun c => decide (gnmW digT c ≠ ⟨#[45]⟩ ∧ gnmW digT c ≠ ⟨#[]⟩)) = true := by decide +kernel
theorem gU_size : (gU.all fun c => decide ((gnmW digT c).size ≤ 10)) = true := by decide +kernel
theorem tU_size : (tU.all fun c => decide ((tnmW digT c).size ≤ 10)) = true := by decide +kernel
theorem gnm_T {c : Cd} (h : c ∈ gU) : gnm c = gnmW digT c := by
  have := List.all_eq_true.1 gU_small c h
  simp only [decide_eq_true_eq] at this
  exact gnmW_eq (decN_T this.1) (decN_T this.2)
theorem tnm_T {c : Cd} (h : c ∈ tU) : tnm c = tnmW digT c := by
  have := List.all_eq_true.1 tU_small c h
  simp only [decide_eq_true_eq] at this
  exact tnmW_eq (decN_T this.1) (decN_T this.2)
theorem gnm_inj {c e : Cd} (h : c ∈ gU) (h2 : e ∈ gU) (he : gnm c = gnm e) : c = e := by
  have := List.all_eq_true.1 (List.all_eq_true.1 gU_inj c h) e h2
  simp only [decide_eq_true_eq] at this
  rw [gnm_T h, gnm_T h2] at he
  exact this he
theorem tnm_inj {c e : Cd} (h : c ∈ tU) (h2 : e ∈ tU) (he : tnm c = tnm e) : c = e := by
  have := List.all_eq_true.1 (List.all_eq_true.1 tU_inj c h) e h2
  simp only [decide_eq_true_eq] at this
  rw [tnm_T h, tnm_T h2] at he
  exact this he
theorem gnm_size {c : Cd} (h : c ∈ gU) : (gnm c).size ≤ 10 := by
  have := List.all_eq_true.1 gU_size c h
  simp only [decide_eq_true_eq] at this
  rw [gnm_T h]; exact this
theorem tnm_size {c : Cd} (h : c ∈ tU) : (tnm c).size ≤ 10 := by
  have := List.all_eq_true.1 tU_size c h
  simp only [decide_eq_true_eq] at this
  rw [tnm_T h]; exact this
def gst (c : Cd) : Int := if c.1 = 2 ∨ c.1 = 7 then 2 else 1
def glG (cs : List Cd) : List Gl := cs.map fun c => ⟨gnm c, gst c⟩
theorem glG_snoc (cs : List Cd) (c : Cd) : glG (cs ++ [c]) = glG cs ++ [⟨gnm c, gst c⟩] := by simp [glG]
theorem glG_len (cs : List Cd) : (glG cs).length = cs.length := by simp [glG]
theorem fresh_g {cs : List Cd} {c : Cd} (hcs : ∀ d ∈ cs, d ∈ gU) (hc : c ∈ gU) (hn : c ∉ cs) : numG (glG cs) (gnm c) = 0 :=
  numG_off fun g hg he => by
    obtain ⟨d, hd, rfl⟩ := List.mem_map.1 hg
    exact hn (gnm_inj (hcs d hd) hc he ▸ hd)
theorem num_dash {cs : List Cd} (hcs : ∀ d ∈ cs, d ∈ gU) : numG (glG cs) ⟨#[45]⟩ = 0 ∧ numG (glG cs) ⟨#[]⟩ = 0 := by
  refine ⟨numG_off fun g hg he => ?_, numG_off fun g hg he => ?_⟩ <;>
    · obtain ⟨d, hd, rfl⟩ := List.mem_map.1 hg
      have := List.all_eq_true.1 gU_dash d (hcs d hd)
      simp only [decide_eq_true_eq] at this
      have h2 : gnm d = _ := he
      rw [gnm_T (hcs d hd)] at h2
      first | exact this.1 h2 | exact this.2 h2
/-- a side: the number of a glue by its code, 0 for none -/
def sdO (gs : List Gl) (o : Option Cd) : Int := match o with
  | none => 0
  | some c => (numG gs (gnm c) : Int)
def tlG (gs : List Gl) (c : Cd) (l : List (Option Cd)) : Ti := ⟨tnm c, l.map (sdO gs)⟩
theorem gU_mem : ∀ c : Cd, c ∈ gU ↔ (c.1 = 0 ∧ c.2.1 < 4 ∧ c.2.2 = 0) ∨ (c.1 = 1 ∧ c.2.1 < 5 ∧ c.2.2 = 0) ∨ (c.1 = 2 ∧ c.2.1 < 5 ∧ c.2.2 < 4) ∨ (3 ≤ c.1 ∧ c.1 ≤ 6 ∧ c.2.1 = 0 ∧ c.2.2 = 0) ∨ (c.1 = 7 ∧ c.2.1 < 13 ∧ c.2.2 = 0) := by
  rintro ⟨k, x, y⟩
  simp only [gU, List.mem_append, List.mem_map, List.mem_flatMap, List.mem_range, List.mem_cons, Prod.mk.injEq, List.not_mem_nil, or_false]
  constructor
  · rintro ((((⟨i, hi, rfl, rfl, rfl⟩ | ⟨i, hi, rfl, rfl, rfl⟩) | ⟨q, hq, i, hi, rfl, rfl, rfl⟩) | h) | ⟨i, hi, rfl, rfl, rfl⟩)
    · exact .inl ⟨rfl, hi, rfl⟩
    · exact .inr (.inl ⟨rfl, hi, rfl⟩)
    · exact .inr (.inr (.inl ⟨rfl, hq, hi⟩))
    · omega
    · exact .inr (.inr (.inr (.inr ⟨rfl, hi, rfl⟩)))
  · rintro (⟨rfl, h, rfl⟩ | ⟨rfl, h, rfl⟩ | ⟨rfl, h, h2⟩ | ⟨h1, h2, rfl, rfl⟩ | ⟨rfl, h, rfl⟩)
    · exact .inl (.inl (.inl (.inl ⟨x, h, rfl, rfl, rfl⟩)))
    · exact .inl (.inl (.inl (.inr ⟨x, h, rfl, rfl, rfl⟩)))
    · exact .inl (.inl (.inr ⟨x, h, y, h2, rfl, rfl, rfl⟩))
    · exact .inl (.inr (by omega))
    · exact .inr ⟨x, h, rfl, rfl, rfl⟩
theorem tU_mem : ∀ c : Cd, c ∈ tU ↔ (c.1 < 3 ∧ c.2.1 < 5 ∧ c.2.2 < 4) ∨ (c.1 = 3 ∧ c.2.1 < 4 ∧ c.2.2 = 0) ∨ (c.1 = 4 ∧ c.2.1 < 4 ∧ c.2.2 = 0) ∨ ((c.1 = 5 ∨ c.1 = 6 ∨ c.1 = 7 ∨ c.1 = 9) ∧ c.2.1 = 0 ∧ c.2.2 = 0) ∨ (c.1 = 8 ∧ c.2.1 < 12 ∧ c.2.2 = 0) := by
  rintro ⟨k, x, y⟩
  simp only [tU, List.mem_append, List.mem_map, List.mem_flatMap, List.mem_range, List.mem_cons, Prod.mk.injEq, List.not_mem_nil, or_false]
  constructor
  · rintro ((((⟨j, hj, q, hq, i, hi, rfl, rfl, rfl⟩ | ⟨i, hi, rfl, rfl, rfl⟩) | ⟨i, hi, rfl, rfl, rfl⟩) | h) | ⟨i, hi, rfl, rfl, rfl⟩)
    · exact .inl ⟨hj, hq, hi⟩
    · exact .inr (.inl ⟨rfl, hi, rfl⟩)
    · exact .inr (.inr (.inl ⟨rfl, hi, rfl⟩))
    · omega
    · exact .inr (.inr (.inr (.inr ⟨rfl, hi, rfl⟩)))
  · rintro (⟨h1, h2, h3⟩ | ⟨rfl, h, rfl⟩ | ⟨rfl, h, rfl⟩ | ⟨h1, rfl, rfl⟩ | ⟨rfl, h, rfl⟩)
    · exact .inl (.inl (.inl (.inl ⟨k, h1, x, h2, y, h3, rfl, rfl, rfl⟩)))
    · exact .inl (.inl (.inl (.inr ⟨x, h, rfl, rfl, rfl⟩)))
    · exact .inl (.inl (.inr ⟨x, h, rfl, rfl, rfl⟩))
    · exact .inl (.inr (by omega))
    · exact .inr ⟨x, h, rfl, rfl, rfl⟩
end Go.Proofs.YtkiamhpapkgboaaDoor
/- A move of a machine, and how it lies in memory. -/


namespace Go.Proofs.YtkiamhpapkgboaaDoor
open Go.RowKit Go.Shelf
/-- a move of a machine -/
structure Mvm where
  s : Int
  r : Int
  w : Int
  d : Int
  n : Int
def RMv (w : World) (b o : Nat) (v : Mvm) : Prop :=
  w.cell? ⟨b, o, none⟩ = some (.int .i64 v.s) ∧ w.cell? ⟨b, o + 1, none⟩ = some (.int .i64 v.r) ∧ w.cell? ⟨b, o + 2, none⟩ = some (.int .i64 v.w) ∧ w.cell? ⟨b, o + 3, none⟩ = some (.int .i64 v.d) ∧ w.cell? ⟨b, o + 4, none⟩ = some (.int .i64 v.n)
theorem RMv.stable : Stable RMv := fun _ _ _ _ _ h hb hw => ⟨(hw.cell (by exact hb)).trans h.1, (hw.cell (by exact hb)).trans h.2.1, (hw.cell (by exact hb)).trans h.2.2.1, (hw.cell (by exact hb)).trans h.2.2.2.1, (hw.cell (by exact hb)).trans h.2.2.2.2⟩
end Go.Proofs.YtkiamhpapkgboaaDoor
