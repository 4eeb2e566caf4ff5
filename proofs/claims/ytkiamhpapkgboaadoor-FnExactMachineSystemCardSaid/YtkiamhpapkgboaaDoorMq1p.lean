/- Plain: a machine's tiles; words on names. -/
import Derived.Test.YtkiamhpapkgboaaDoorMq1
import Derived.Test.YtkiamhpapkgboaaDoorKQ
namespace Go.Proofs.YtkiamhpapkgboaaDoor
open Go.RowKit Go.Shelf
set_option linter.unusedSimpArgs false
set_option linter.unusedVariables false
/-- a move within a machine -/
structure OkMv (Q S : Nat) (v : Mvm) : Prop where
  s : 0 ≤ v.s ∧ v.s < Q
  r : 0 ≤ v.r ∧ v.r < S
  w : 0 ≤ v.w ∧ v.w < S
  n : 0 ≤ v.n ∧ v.n < Q
  d : v.d = 1 ∨ v.d = 3
def tMv (gs : List Gl) (v : Mvm) : Ti := tlG gs (0, v.s.toNat, v.r.toNat) (if v.d = 1 then [some (0, v.w.toNat, 0), some (1, v.n.toNat, 0), some (2, v.s.toNat, v.r.toNat), some (3, 0, 0)] else [some (0, v.w.toNat, 0), some (4, 0, 0), some (2, v.s.toNat, v.r.toNat), some (1, v.n.toNat, 0)])
def tMs (gs : List Gl) (ms : List Mvm) : List Ti := ms.map (tMv gs)
def tIw (gs : List Gl) (q i : Nat) : Ti := tlG gs (1, q, i) [some (2, q, i), some (4, 0, 0), some (0, i, 0), some (1, q, 0)]
def tIe (gs : List Gl) (q i : Nat) : Ti := tlG gs (2, q, i) [some (2, q, i), some (1, q, 0), some (0, i, 0), some (3, 0, 0)]
def tIn (gs : List Gl) (q : Nat) : Nat → List Ti
  | 0 => []
  | i + 1 => tIn gs q i ++ [tIw gs q i] ++ [tIe gs q i]
def tIa (gs : List Gl) (S : Nat) : Nat → List Ti
  | 0 => []
  | q + 1 => tIa gs S q ++ tIn gs q S
def tE (gs : List Gl) (i : Nat) : Ti := tlG gs (3, i, 0) [some (0, i, 0), some (4, 0, 0), some (0, i, 0), some (4, 0, 0)]
def tW (gs : List Gl) (i : Nat) : Ti := tlG gs (4, i, 0) [some (0, i, 0), some (3, 0, 0), some (0, i, 0), some (3, 0, 0)]
def tEW (gs : List Gl) : Nat → List Ti
  | 0 => []
  | i + 1 => tEW gs i ++ [tE gs i] ++ [tW gs i]
def tL (gs : List Gl) : Ti := tlG gs (5, 0, 0) [some (5, 0, 0), some (3, 0, 0), some (5, 0, 0), none]
def tR (gs : List Gl) : Ti := tlG gs (6, 0, 0) [some (6, 0, 0), none, some (6, 0, 0), some (4, 0, 0)]
/-- a machine's tiles but those of its row -/
def tAll (gs : List Gl) (Q S : Nat) (ms : List Mvm) : List Ti := tMs gs ms ++ tIa gs S Q ++ tEW gs S ++ [tL gs] ++ [tR gs]
theorem len_tMs (gs : List Gl) (ms : List Mvm) : (tMs gs ms).length = ms.length := by simp [tMs]
theorem len_tIn (gs : List Gl) (q : Nat) : ∀ i, (tIn gs q i).length = 2 * i
  | 0 => rfl
  | i + 1 => by simp [tIn, len_tIn gs q i]; omega
theorem len_tIa (gs : List Gl) (S : Nat) : ∀ q, (tIa gs S q).length = q * (2 * S)
  | 0 => by simp [tIa]
  | q + 1 => by rw [tIa, List.length_append, len_tIa gs S q, len_tIn, Nat.add_mul, Nat.one_mul]
theorem len_tEW (gs : List Gl) : ∀ i, (tEW gs i).length = 2 * i
  | 0 => rfl
  | i + 1 => by simp [tEW, len_tEW gs i]; omega
theorem sd_some {gs : List Gl} {c : Cd} {s : ByteArray} (h : gnm c = s) : (numG gs s : Int) = sdO gs (some c) := by subst h; rfl
theorem sd_none {gs : List Gl} {s : ByteArray} (h : numG gs s = 0) : (numG gs s : Int) = sdO gs none := by rw [h]; rfl
theorem addT_cd (gs : List Gl) (ts : List Ti) (c : Cd) {nm s0 s1 s2 s3 : ByteArray} {o0 o1 o2 o3 : Option Cd} (hn : tnm c = nm) (h0 : (numG gs s0 : Int) = sdO gs o0) (h1 : (numG gs s1 : Int) = sdO gs o1) (h2 : (numG gs s2 : Int) = sdO gs o2) (h3 : (numG gs s3 : Int) = sdO gs o3) :
    addT (gs, ts) nm [s0, s1, s2, s3] = (gs, ts ++ [tlG gs c [o0, o1, o2, o3]]) := by
  unfold addT tlG sidesG
  simp only [List.map_cons, List.map_nil, h0, h1, h2, h3, hn]
theorem rd4 (w : World) (s0 s1 s2 s3 : ByteArray) (T : TypeId) {k : Nat} (hk : w.heap.size = k) : RdSl 1 RNm (w.alloc (.cells #[.string s0, .string s1, .string s2, .string s3] T)) (some ⟨k, 0, none⟩) 4 [s0, s1, s2, s3] := by
  subst hk
  refine ⟨rfl, fun _ => ⟨w.heap.size, 0, rfl, by simp, fun j hj => ?_⟩⟩
  have hb := (Bx.made w [.string s0, .string s1, .string s2, .string s3] T).cell j (.string ([s0, s1, s2, s3][j])) (by
    rw [show ([.string s0, .string s1, .string s2, .string s3] : List Value) = [s0, s1, s2, s3].map Value.string from rfl, List.getElem?_map, List.getElem?_eq_getElem hj]; rfl)
  show World.cell? _ ⟨w.heap.size, 0 + j * 1, none⟩ = _
  rw [Nat.zero_add, Nat.mul_one]; exact hb
/-- a name of a code -/
structure NmG (c : Cd) (s : ByteArray) : Prop where
  eq : gnm c = s
  sz : s.size ≤ 10
theorem NmG.of {c : Cd} {s : ByteArray} (h : c ∈ gU) (hs : gnm c = s) : NmG c s := ⟨hs, by rw [← hs]; exact gnm_size h⟩
structure NmT (c : Cd) (s : ByteArray) : Prop where
  eq : tnm c = s
  sz : s.size ≤ 10
theorem NmT.of {c : Cd} {s : ByteArray} (h : c ∈ tU) (hs : tnm c = s) : NmT c s := ⟨hs, by rw [← hs]; exact tnm_size h⟩
theorem zs4 {a b c d : ByteArray} (ha : a.size ≤ 10) (hb : b.size ≤ 10) (hc : c.size ≤ 10) (hd : d.size ≤ 10) : ∀ s ∈ [a, b, c, d], s.size ≤ 1000 := by
  intro s hs
  simp only [List.mem_cons, List.not_mem_nil, or_false] at hs
  rcases hs with rfl | rfl | rfl | rfl <;> omega
theorem in_tU {c : Cd} (h : (c.1 < 3 ∧ c.2.1 < 5 ∧ c.2.2 < 4) ∨ (c.1 = 3 ∧ c.2.1 < 4 ∧ c.2.2 = 0) ∨ (c.1 = 4 ∧ c.2.1 < 4 ∧ c.2.2 = 0) ∨ ((c.1 = 5 ∨ c.1 = 6 ∨ c.1 = 7 ∨ c.1 = 9) ∧ c.2.1 = 0 ∧ c.2.2 = 0) ∨ (c.1 = 8 ∧ c.2.1 < 12 ∧ c.2.2 = 0)) : c ∈ tU := (tU_mem c).2 h
/-- a machine's row -/
def tF (gs : List Gl) : Ti := tlG gs (7, 0, 0) [some (5, 0, 0), some (7, 0, 0), none, none]
def ownC (l : List Int) (h s : Nat) (k : Nat) : Cd := if k = h then (2, s, (l.getD k 0).toNat) else (0, (l.getD k 0).toNat, 0)
def tC (gs : List Gl) (l : List Int) (h s k : Nat) : Ti := tlG gs (8, k, 0) [some (ownC l h s k), some (7, k + 1, 0), none, some (7, k, 0)]
def tCs (gs : List Gl) (l : List Int) (h s : Nat) : Nat → List Ti
  | 0 => []
  | k + 1 => tCs gs l h s k ++ [tC gs l h s k]
def tZ (gs : List Gl) (n : Nat) : Ti := tlG gs (9, 0, 0) [some (6, 0, 0), none, none, some (7, n, 0)]
def rowT (gs : List Gl) (l : List Int) (h s : Nat) : List Ti := [tF gs] ++ tCs gs l h s l.length ++ [tZ gs l.length]
theorem len_tCs (gs : List Gl) (l : List Int) (h s : Nat) : ∀ k, (tCs gs l h s k).length = k
  | 0 => rfl
  | k + 1 => by rw [tCs, List.length_append, len_tCs gs l h s k]; rfl
/-- numbers from T on -/
def numsT (T n : Nat) : List Value := (List.range n).map fun i => Value.int .i64 ((T + i : Nat) : Int)
theorem numsT_succ (T n : Nat) : numsT T (n + 1) = numsT T n ++ [.int .i64 ((T + n : Nat) : Int)] := by simp [numsT, List.range_succ]
theorem numsT_len (T n : Nat) : (numsT T n).length = n := by simp [numsT]
theorem numsT_get {T n k : Nat} (h : k < n) : (numsT T n)[k]? = some (.int .i64 ((T + k : Nat) : Int)) := by
  unfold numsT
  rw [List.getElem?_map, List.getElem?_range h]; rfl
/-- the seed -/
def seedP (T n : Nat) : List Pl := (List.range n).map fun (i : Nat) => (⟨(i : Int) - 1, 0, ((T + i : Nat) : Int)⟩ : Pl)
theorem seedP_succ (T n : Nat) : seedP T (n + 1) = seedP T n ++ [(⟨(n : Int) - 1, 0, ((T + n : Nat) : Int)⟩ : Pl)] := by simp [seedP, List.range_succ]
end Go.Proofs.YtkiamhpapkgboaaDoor
