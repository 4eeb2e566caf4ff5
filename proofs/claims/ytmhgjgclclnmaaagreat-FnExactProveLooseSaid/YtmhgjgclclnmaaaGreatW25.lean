/- Walks: BindingsOf, the program's and the reference's. -/
import Derived.Test.YtmhgjgclclnmaaaGreatW24
import Derived.Test.YtmhgjgclclnmaaaGreatOrdApp
import Derived.Test.YtmhgjgclclnmaaaGreatKQ
import Derived.Test.YtmhgjgclclnmaaaGreatHTo
namespace Go.Proofs.YtmhgjgclclnmaaaGreat
open Go.RowKit Go.Shelf
set_option linter.unusedSimpArgs false
set_option linter.unusedVariables false
attribute [local go_sem] BelowBy.cell BelowBy.cell_drew stillUpon givesUpon BelowBy.cell_drew2 BelowBy.cell_drew3

theorem cell_one_new (w : World) (a : Value) (t : TypeId) : ∀ j u, [a][j]? = some u → (w.alloc (.cells #[a] t)).cell? ((⟨w.heap.size, 0, none⟩ : Addr).add j) = some u := by
  intro j u hj
  match j, hj with
  | 0, hj => simp at hj; subst hj; simp [Addr.add]
  | j + 1, hj => simp at hj
noncomputable def bindOf (gs : List Gl) (ts : List Ti) (xs : List Pl) (e : Pl) : Int := bindN gs ts xs e.x e.y e.t.toNat 4
noncomputable def bindsL (gs : List Gl) (ts : List Ti) (xs : List Pl) (k : Nat) : List Int := (xs.take k).map (bindOf gs ts xs)
theorem bindsL_succ {gs : List Gl} {ts : List Ti} {xs : List Pl} {k : Nat} {e : Pl} (he : xs[k]? = some e) : bindsL gs ts xs (k + 1) = bindsL gs ts xs k ++ [bindOf gs ts xs e] := by
  have hk := lt_of_get he
  have h2 : xs[k] = e := (List.getElem?_eq_some_iff.1 he).2
  unfold bindsL
  rw [List.take_succ_eq_append_getElem hk, List.map_append, h2]; rfl
theorem bindsL_len {gs : List Gl} {ts : List Ti} {xs : List Pl} {k : Nat} (hk : k ≤ xs.length) : (bindsL gs ts xs k).length = k := by
  unfold bindsL; simp; omega
noncomputable def bindsR (gs : List Gl) (ts : List Ti) (xs : List Pl) : List Int × Int := if validAsmB gs ts xs = true then (bindsL gs ts xs xs.length, 0) else ([], 1)
theorem bindsR_no {gs : List Gl} {ts : List Ti} {xs : List Pl} (h : validAsmB gs ts xs = false) : (([], 1) : List Int × Int) = bindsR gs ts xs := by unfold bindsR; rw [h, if_neg (by decide)]
theorem bindsR_yes {gs : List Gl} {ts : List Ti} {xs : List Pl} (h : validAsmB gs ts xs = true) : ((bindsL gs ts xs xs.length, 0) : List Int × Int) = bindsR gs ts xs := by unfold bindsR; rw [h, if_pos rfl]
theorem bindsR_len (gs : List Gl) (ts : List Ti) (xs : List Pl) : (bindsR gs ts xs).1.length ≤ 1073741824 := by
  unfold bindsR
  split
  · rename_i h
    have h3 := (valid_of h).len
    show (bindsL gs ts xs xs.length).length ≤ _
    rw [bindsL_len (Nat.le_refl _)]
    omega
  · simp
/-- the row of the first k -/
theorem row_snoc {w' : World} {B : Nat} {v' : Value} {k : Nat} {gs : List Gl} {ts : List Ti} {xs : List Pl} {e : Pl} {r : Int} (he : xs[k]? = some e) (hr : bindOf gs ts xs e = r) (h : w'.ownsRow B 2 1 v' (k + 1) ((bindsL gs ts xs k).map (Value.int .i64) ++ [.int .i64 r])) : w'.ownsRow B 2 1 v' (k + 1) ((bindsL gs ts xs (k + 1)).map (Value.int .i64)) := by
  rw [bindsL_succ he, List.map_append, hr]; exact h
end Go.Proofs.YtmhgjgclclnmaaaGreat
