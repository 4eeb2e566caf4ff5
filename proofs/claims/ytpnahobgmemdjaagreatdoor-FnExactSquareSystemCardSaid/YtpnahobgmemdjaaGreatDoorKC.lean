import Derived.Test.YtpnahobgmemdjaaGreatDoorKM
import Derived.Test.YtpnahobgmemdjaaGreatDoorMm2
import Derived.Test.YtpnahobgmemdjaaGreatDoorDn
set_option linter.unusedSimpArgs false
set_option linter.unusedVariables false
/- Plain: names of a machine's glues and tiles are apart; its set. -/

namespace Go.Proofs.YtpnahobgmemdjaaGreatDoor
open Go.RowKit
def pairW (d : Nat → ByteArray) (wd : ByteArray) (a b : Nat) : ByteArray := wd ++ d a ++ ⟨#[95]⟩ ++ d b
/-- glues: 0 a, 1 m, 2 h, 3 l, 4 r, 5 bl, 6 br, 7 z -/
def gnmW (d : Nat → ByteArray) (c : Cd) : ByteArray :=
  if c.1 = 0 then ⟨#[97]⟩ ++ d c.2.1 else if c.1 = 1 then ⟨#[109]⟩ ++ d c.2.1 else if c.1 = 2 then pairW d ⟨#[104]⟩ c.2.1 c.2.2 else if c.1 = 3 then ⟨#[108]⟩ else if c.1 = 4 then ⟨#[114]⟩ else if c.1 = 5 then ⟨#[98, 108]⟩ else if c.1 = 6 then ⟨#[98, 114]⟩ else ⟨#[122]⟩ ++ d c.2.1
/-- tiles: 0 do, 1 inw, 2 ine, 3 east, 4 west, 5 left, 6 right, 7 first, 8 cell, 9 last -/
def tnmW (d : Nat → ByteArray) (c : Cd) : ByteArray :=
  if c.1 = 0 then pairW d ⟨#[100, 111]⟩ c.2.1 c.2.2 else if c.1 = 1 then pairW d ⟨#[105, 110, 119]⟩ c.2.1 c.2.2 else if c.1 = 2 then pairW d ⟨#[105, 110, 101]⟩ c.2.1 c.2.2 else if c.1 = 3 then ⟨#[101, 97, 115, 116]⟩ ++ d c.2.1 else if c.1 = 4 then ⟨#[119, 101, 115, 116]⟩ ++ d c.2.1 else if c.1 = 5 then ⟨#[108, 101, 102, 116]⟩ else if c.1 = 6 then ⟨#[114, 105, 103, 104, 116]⟩ else if c.1 = 7 then ⟨#[102, 105, 114, 115, 116]⟩ else if c.1 = 8 then ⟨#[99, 101, 108, 108]⟩ ++ d c.2.1 else ⟨#[108, 97, 115, 116]⟩
theorem gnmW_eq {d e : Nat → ByteArray} {c : Cd} (h1 : d c.2.1 = e c.2.1) (h2 : d c.2.2 = e c.2.2) : gnmW d c = gnmW e c := by simp only [gnmW, pairW, h1, h2]
theorem tnmW_eq {d e : Nat → ByteArray} {c : Cd} (h1 : d c.2.1 = e c.2.1) (h2 : d c.2.2 = e c.2.2) : tnmW d c = tnmW e c := by simp only [tnmW, pairW, h1, h2]
def gnm : Cd → ByteArray := gnmW decN
def tnm : Cd → ByteArray := tnmW decN
def gU : List Cd := (List.range 4).map (fun i => (0, i, 0)) ++ (List.range 5).map (fun q => (1, q, 0)) ++ (List.range 5).flatMap (fun q => (List.range 4).map fun i => (2, q, i)) ++ [(3, 0, 0), (4, 0, 0), (5, 0, 0), (6, 0, 0)] ++ (List.range 13).map (fun k => (7, k, 0))
def tU : List Cd := (List.range 3).flatMap (fun k => (List.range 5).flatMap (fun q => (List.range 4).map fun i => (k, q, i))) ++ (List.range 4).map (fun i => (3, i, 0)) ++ (List.range 4).map (fun i => (4, i, 0)) ++ [(5, 0, 0), (6, 0, 0), (7, 0, 0), (9, 0, 0)] ++ (List.range 12).map (fun k => (8, k, 0))
theorem gU_small : (gU.all fun c => decide (c.2.1 < 100 ∧ c.2.2 < 100)) = true := by decide +kernel
theorem tU_small : (tU.all fun c => decide (c.2.1 < 100 ∧ c.2.2 < 100)) = true := by decide +kernel
theorem gU_inj : (gU.all fun c => gU.all fun e => decide (gnmW digT c = gnmW digT e → c = e)) = true := by decide +kernel
theorem tU_inj : (tU.all fun c => tU.all fun e => decide (tnmW digT c = tnmW digT e → c = e)) = true := by decide +kernel
theorem gU_dash : (gU.all fun c => decide (gnmW digT c ≠ ⟨#[45]⟩ ∧ gnmW digT c ≠ ⟨#[]⟩)) = true := by decide +kernel
theorem gU_size : (gU.all fun c => decide ((gnmW digT c).size ≤ 10)) = true := by decide +kernel
theorem tU_size : (tU.all fun c => decide ((tnmW digT c).size ≤ 10)) = true := by decide +kernel
theorem gnm_T {c : Cd} (h : c ∈ gU) : gnm c = gnmW digT c := by
  have := List.all_eq_true.1 gU_small c h
  simp only [decide_eq_true_eq] at this
  exact gnmW_eq (decN_T this.1) (decN_T this.2)
theorem tnm_T {c : Cd} (h : c ∈ tU) : tnm c = tnmW digT c := by
  have := List.all_eq_true.1 tU_small c h
  simp only [decide_eq_true_eq] at this
  exact tnmW_eq (decN_T this.1) (decN_T this.2)
theorem gnm_inj {c e : Cd} (h : c ∈ gU) (h2 : e ∈ gU) (he : gnm c = gnm e) : c = e := by
  have := List.all_eq_true.1 (List.all_eq_true.1 gU_inj c h) e h2
  simp only [decide_eq_true_eq] at this
  rw [gnm_T h, gnm_T h2] at he
  exact this he
theorem tnm_inj {c e : Cd} (h : c ∈ tU) (h2 : e ∈ tU) (he : tnm c = tnm e) : c = e := by
  have := List.all_eq_true.1 (List.all_eq_true.1 tU_inj c h) e h2
  simp only [decide_eq_true_eq] at this
  rw [tnm_T h, tnm_T h2] at he
  exact this he
theorem gnm_size {c : Cd} (h : c ∈ gU) : (gnm c).size ≤ 10 := by
  have := List.all_eq_true.1 gU_size c h
  simp only [decide_eq_true_eq] at this
  rw [gnm_T h]; exact this
theorem tnm_size {c : Cd} (h : c ∈ tU) : (tnm c).size ≤ 10 := by
  have := List.all_eq_true.1 tU_size c h
  simp only [decide_eq_true_eq] at this
  rw [tnm_T h]; exact this
def gst (c : Cd) : Int := if c.1 = 2 ∨ c.1 = 7 then 2 else 1
def glG (cs : List Cd) : List Gl := cs.map fun c => ⟨gnm c, gst c⟩
theorem glG_snoc (cs : List Cd) (c : Cd) : glG (cs ++ [c]) = glG cs ++ [⟨gnm c, gst c⟩] := by simp [glG]
theorem glG_len (cs : List Cd) : (glG cs).length = cs.length := by simp [glG]
theorem fresh_g {cs : List Cd} {c : Cd} (hcs : ∀ d ∈ cs, d ∈ gU) (hc : c ∈ gU) (hn : c ∉ cs) : numG (glG cs) (gnm c) = 0 :=
  numG_off fun g hg he => by
    obtain ⟨d, hd, rfl⟩ := List.mem_map.1 hg
    exact hn (gnm_inj (hcs d hd) hc he ▸ hd)
theorem num_dash {cs : List Cd} (hcs : ∀ d ∈ cs, d ∈ gU) : numG (glG cs) ⟨#[45]⟩ = 0 ∧ numG (glG cs) ⟨#[]⟩ = 0 := by
  refine ⟨numG_off fun g hg he => ?_, numG_off fun g hg he => ?_⟩ <;>
    · obtain ⟨d, hd, rfl⟩ := List.mem_map.1 hg
      have := List.all_eq_true.1 gU_dash d (hcs d hd)
      simp only [decide_eq_true_eq] at this
      have h2 : gnm d = _ := he
      rw [gnm_T (hcs d hd)] at h2
      first | exact this.1 h2 | exact this.2 h2
/-- a side: the number of a glue by its code, 0 for none -/
def sdO (gs : List Gl) (o : Option Cd) : Int := match o with
  | none => 0
  | some c => (numG gs (gnm c) : Int)
def tlG (gs : List Gl) (c : Cd) (l : List (Option Cd)) : Ti := ⟨tnm c, l.map (sdO gs)⟩
theorem gU_mem : ∀ c : Cd, c ∈ gU ↔ (c.1 = 0 ∧ c.2.1 < 4 ∧ c.2.2 = 0) ∨ (c.1 = 1 ∧ c.2.1 < 5 ∧ c.2.2 = 0) ∨ (c.1 = 2 ∧ c.2.1 < 5 ∧ c.2.2 < 4) ∨ (3 ≤ c.1 ∧ c.1 ≤ 6 ∧ c.2.1 = 0 ∧ c.2.2 = 0) ∨ (c.1 = 7 ∧ c.2.1 < 13 ∧ c.2.2 = 0) := by
  rintro ⟨k, x, y⟩
  simp only [gU, List.mem_append, List.mem_map, List.mem_flatMap, List.mem_range, List.mem_cons, Prod.mk.injEq, List.not_mem_nil, or_false]
  constructor
  · rintro ((((⟨i, hi, rfl, rfl, rfl⟩ | ⟨i, hi, rfl, rfl, rfl⟩) | ⟨q, hq, i, hi, rfl, rfl, rfl⟩) | h) | ⟨i, hi, rfl, rfl, rfl⟩)
    · exact .inl ⟨rfl, hi, rfl⟩
    · exact .inr (.inl ⟨rfl, hi, rfl⟩)
    · exact .inr (.inr (.inl ⟨rfl, hq, hi⟩))
    · omega
    · exact .inr (.inr (.inr (.inr ⟨rfl, hi, rfl⟩)))
  · rintro (⟨rfl, h, rfl⟩ | ⟨rfl, h, rfl⟩ | ⟨rfl, h, h2⟩ | ⟨h1, h2, rfl, rfl⟩ | ⟨rfl, h, rfl⟩)
    · exact .inl (.inl (.inl (.inl ⟨x, h, rfl, rfl, rfl⟩)))
    · exact .inl (.inl (.inl (.inr ⟨x, h, rfl, rfl, rfl⟩)))
    · exact .inl (.inl (.inr ⟨x, h, y, h2, rfl, rfl, rfl⟩))
    · exact .inl (.inr (by omega))
    · exact .inr ⟨x, h, rfl, rfl, rfl⟩
theorem tU_mem : ∀ c : Cd, c ∈ tU ↔ (c.1 < 3 ∧ c.2.1 < 5 ∧ c.2.2 < 4) ∨ (c.1 = 3 ∧ c.2.1 < 4 ∧ c.2.2 = 0) ∨ (c.1 = 4 ∧ c.2.1 < 4 ∧ c.2.2 = 0) ∨ ((c.1 = 5 ∨ c.1 = 6 ∨ c.1 = 7 ∨ c.1 = 9) ∧ c.2.1 = 0 ∧ c.2.2 = 0) ∨ (c.1 = 8 ∧ c.2.1 < 12 ∧ c.2.2 = 0) := by
  rintro ⟨k, x, y⟩
  simp only [tU, List.mem_append, List.mem_map, List.mem_flatMap, List.mem_range, List.mem_cons, Prod.mk.injEq, List.not_mem_nil, or_false]
  constructor
  · rintro ((((⟨j, hj, q, hq, i, hi, rfl, rfl, rfl⟩ | ⟨i, hi, rfl, rfl, rfl⟩) | ⟨i, hi, rfl, rfl, rfl⟩) | h) | ⟨i, hi, rfl, rfl, rfl⟩)
    · exact .inl ⟨hj, hq, hi⟩
    · exact .inr (.inl ⟨rfl, hi, rfl⟩)
    · exact .inr (.inr (.inl ⟨rfl, hi, rfl⟩))
    · omega
    · exact .inr (.inr (.inr (.inr ⟨rfl, hi, rfl⟩)))
  · rintro (⟨h1, h2, h3⟩ | ⟨rfl, h, rfl⟩ | ⟨rfl, h, rfl⟩ | ⟨h1, rfl, rfl⟩ | ⟨rfl, h, rfl⟩)
    · exact .inl (.inl (.inl (.inl ⟨k, h1, x, h2, y, h3, rfl, rfl, rfl⟩)))
    · exact .inl (.inl (.inl (.inr ⟨x, h, rfl, rfl, rfl⟩)))
    · exact .inl (.inl (.inr ⟨x, h, rfl, rfl, rfl⟩))
    · exact .inl (.inr (by omega))
    · exact .inr ⟨x, h, rfl, rfl, rfl⟩
end Go.Proofs.YtpnahobgmemdjaaGreatDoor
/- Walks: the program's glues of a machine. -/



namespace Go.Proofs.YtpnahobgmemdjaaGreatDoor
open Go.RowKit Go.Shelf
attribute [local go_sem] BelowBy.cell BelowBy.cell_drew stillUpon givesUpon

/-- a box with its type -/
def BxT (w : World) (k : Nat) (T : TypeId) (l : List Value) : Prop := Bx w k l ∧ ∃ M f, w.rowIs k T M f
theorem BxT.made (w : World) (l : List Value) (T : TypeId) : BxT (w.alloc (.cells l.toArray T)) w.heap.size T l := ⟨Bx.made w l T, rowIs_made w l T⟩
theorem BxT.below {w w' : World} {k : Nat} {T : TypeId} {l : List Value} (h : BxT w k T l) (hb : Below w.heap.size w w') : BxT w' k T l := by
  obtain ⟨h1, M, f, hr⟩ := h
  exact ⟨h1.below hb, M, f, hr.of_block (hb.block k hr.lt)⟩
theorem BxT.far {Ts : List TypeId} {w w' : World} {k B : Nat} {T : TypeId} {l : List Value} (h : BxT w k T l) (hf : Far Ts w w') (hT : T ∉ Ts) (hs : Below B w w') : BxT w' k T l := by
  obtain ⟨h1, M, f, hr⟩ := h
  exact ⟨h1.far hr hf hT hs.size, M, f, rowIs_far hr hf hT⟩
/-- the table of powers stands, whatever is laid behind B -/
def TabB (B : Nat) (w : World) : Prop := ∀ w', Below B w w' → Tab w'
theorem TabB.below {B : Nat} {w w' : World} (h : TabB B w) (hb : Below B w w') : TabB B w' := fun w2 h2 => h w2 (hb.trans h2)
theorem TabB.here {B : Nat} {w : World} (h : TabB B w) : Tab w := h w (Below.refl _ _)
theorem TabB.of {w w' : World} {B : Nat} (h : Tab w) (hb : Below w.heap.size w w') (hB : w.heap.size ≤ B) : TabB B w' := fun w2 h2 => h.below (hb.trans (h2.mono hB))
/-- codes of a machine's glues -/
def cA (n : Nat) : List Cd := (List.range n).map fun i => (0, i, 0)
def cH (q n : Nat) : List Cd := (List.range n).map fun i => (2, q, i)
def cM (S : Nat) : Nat → List Cd
  | 0 => []
  | q + 1 => cM S q ++ ((1, q, 0) :: cH q S)
def cB (n : Nat) : List Cd := (List.range n).map fun i => (3 + i, 0, 0)
def cZ (n : Nat) : List Cd := (List.range n).map fun i => (7, i, 0)
def cG (Q S : Nat) : List Cd := cA S ++ cM S Q ++ cB 4
theorem cB_succ (n : Nat) : cB (n + 1) = cB n ++ [(3 + n, 0, 0)] := by simp [cB, List.range_succ]
theorem cZ_succ (n : Nat) : cZ (n + 1) = cZ n ++ [(7, n, 0)] := by simp [cZ, List.range_succ]
theorem len_cB (n : Nat) : (cB n).length = n := by simp [cB]
theorem len_cZ (n : Nat) : (cZ n).length = n := by simp [cZ]
theorem mem_cB {n : Nat} {c : Cd} : c ∈ cB n ↔ 3 ≤ c.1 ∧ c.1 < 3 + n ∧ c.2.1 = 0 ∧ c.2.2 = 0 := by
  obtain ⟨k, x, y⟩ := c
  simp only [cB, List.mem_map, List.mem_range, Prod.mk.injEq]
  constructor
  · rintro ⟨i, hi, rfl, rfl, rfl⟩; omega
  · rintro ⟨h1, h2, rfl, rfl⟩; exact ⟨k - 3, by omega, by omega, rfl, rfl⟩
theorem mem_cZ {n : Nat} {c : Cd} : c ∈ cZ n ↔ c.1 = 7 ∧ c.2.1 < n ∧ c.2.2 = 0 := by
  obtain ⟨k, x, y⟩ := c
  simp only [cZ, List.mem_map, List.mem_range, Prod.mk.injEq]
  constructor
  · rintro ⟨i, hi, rfl, rfl, rfl⟩; exact ⟨rfl, hi, rfl⟩
  · rintro ⟨rfl, h, rfl⟩; exact ⟨x, h, rfl, rfl, rfl⟩
theorem cA_succ (n : Nat) : cA (n + 1) = cA n ++ [(0, n, 0)] := by simp [cA, List.range_succ]
theorem cH_succ (q n : Nat) : cH q (n + 1) = cH q n ++ [(2, q, n)] := by simp [cH, List.range_succ]
theorem mem_cA {n : Nat} {c : Cd} : c ∈ cA n ↔ c.1 = 0 ∧ c.2.1 < n ∧ c.2.2 = 0 := by
  obtain ⟨k, x, y⟩ := c
  simp only [cA, List.mem_map, List.mem_range, Prod.mk.injEq]
  constructor
  · rintro ⟨i, hi, rfl, rfl, rfl⟩; exact ⟨rfl, hi, rfl⟩
  · rintro ⟨rfl, h, rfl⟩; exact ⟨x, h, rfl, rfl, rfl⟩
theorem mem_cH {q n : Nat} {c : Cd} : c ∈ cH q n ↔ c.1 = 2 ∧ c.2.1 = q ∧ c.2.2 < n := by
  obtain ⟨k, x, y⟩ := c
  simp only [cH, List.mem_map, List.mem_range, Prod.mk.injEq]
  constructor
  · rintro ⟨i, hi, rfl, rfl, rfl⟩; exact ⟨rfl, rfl, hi⟩
  · rintro ⟨rfl, rfl, h⟩; exact ⟨y, h, rfl, rfl, rfl⟩
theorem mem_cM {S : Nat} {c : Cd} : ∀ {q : Nat}, c ∈ cM S q ↔ (c.1 = 1 ∧ c.2.1 < q ∧ c.2.2 = 0) ∨ (c.1 = 2 ∧ c.2.1 < q ∧ c.2.2 < S)
  | 0 => by simp [cM]
  | q + 1 => by
    obtain ⟨k, x, y⟩ := c
    simp only [cM, List.mem_append, List.mem_cons, mem_cM (q := q), mem_cH, Prod.mk.injEq]
    omega
theorem len_cA (n : Nat) : (cA n).length = n := by simp [cA]
theorem len_cH (q n : Nat) : (cH q n).length = n := by simp [cH]
theorem len_cM (S : Nat) : ∀ q, (cM S q).length = q * (S + 1)
  | 0 => by simp [cM]
  | q + 1 => by
    rw [cM, List.length_append, len_cM S q, List.length_cons, len_cH, Nat.succ_mul]
theorem in_gU {c : Cd} (h : (c.1 = 0 ∧ c.2.1 < 4 ∧ c.2.2 = 0) ∨ (c.1 = 1 ∧ c.2.1 < 5 ∧ c.2.2 = 0) ∨ (c.1 = 2 ∧ c.2.1 < 5 ∧ c.2.2 < 4) ∨ (3 ≤ c.1 ∧ c.1 ≤ 6 ∧ c.2.1 = 0 ∧ c.2.2 = 0) ∨ (c.1 = 7 ∧ c.2.1 < 13 ∧ c.2.2 = 0)) : c ∈ gU := (gU_mem c).2 h
/-- one glue more -/
theorem addG_cd (cs : List Cd) (ts : List Ti) (c : Cd) {nm : ByteArray} {s : Int} (hn : gnm c = nm) (hs : gst c = s) : addG (glG cs, ts) nm s = (glG (cs ++ [c]), ts) := by
  unfold addG
  rw [glG_snoc, hn, hs]
end Go.Proofs.YtpnahobgmemdjaaGreatDoor
