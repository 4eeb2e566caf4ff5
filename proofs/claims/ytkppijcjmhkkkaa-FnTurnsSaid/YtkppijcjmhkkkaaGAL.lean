import Derived.Test.YtkppijcjmhkkkaaGAE
import Derived.Test.YtkppijcjmhkkkaaGAK
import Derived.Test.YtkppijcjmhkkkaaGAA
import Derived.Laws.AppendOwn
import Derived.OwnWalk
set_option linter.unusedSimpArgs false
set_option linter.unusedVariables false
/- Walks: the reference on assemblies: valid, index, neighbors, bonds' strengths. -/

namespace Go.Proofs.Ytkppijcjmhkkkaa
open Go.RowKit
attribute [local go_sem] BelowBy.cell BelowBy.cell_drew stillUpon givesUpon
def codeB (b : Bool) : Int := if b then 0 else 1
theorem sLessPoint_at {ax ay bx b_y : Int} {v : Bool} {w : World} (h : lessPt ax ay bx b_y = v) :
    Calls Try.prog 46 #[.agg #[.int .i64 ax, .int .i64 ay], .agg #[.int .i64 bx, .int .i64 b_y]] w fun e w' => e = .returned (.bool v) ∧ Below w.heap.size w w' := by
  rw [← h]; exact sLessPoint_any _ _ _ _ _
end Go.Proofs.Ytkppijcjmhkkkaa
/- Walks: the reference looks for a point in an assembly and in a shape, by places. -/


namespace Go.Proofs.Ytkppijcjmhkkkaa
open Go.RowKit Go.Shelf
attribute [local go_sem] BelowBy.cell BelowBy.cell_drew stillUpon givesUpon

def plPt (e : Pl) : Pt := ⟨e.x, e.y⟩
/-- the place of a point, or -1 -/
def idxI (ps : List Pt) (x y : Int) : Int := match idxP ps x y with
  | some v => (v : Int)
  | none => -1
theorem idxI_yes {ps : List Pt} (hS : Shp ps) {i : Nat} {e : Pt} (he : ps[i]? = some e) : (i : Int) = idxI ps e.x e.y := by
  unfold idxI; rw [hS.idx he]
theorem idxI_no {ps : List Pt} {x y : Int} {i : Nat} (h1 : ∀ (k : Nat) (d : Pt), k < i → ps[k]? = some d → lessPt d.x d.y x y = true) (h2 : ∀ (k : Nat) (d : Pt), i ≤ k → ps[k]? = some d → lessPt d.x d.y x y = false) (hS : Shp ps)
    (h3 : ∀ (d : Pt), ps[i]? = some d → ¬ (d.x = x ∧ d.y = y)) : (-1 : Int) = idxI ps x y := by
  unfold idxI
  cases hi : idxP ps x y with
  | none => rfl
  | some v =>
    exfalso
    have hv := idxP_some hi
    rcases Nat.lt_trichotomy v i with h | h | h
    · have := h1 v _ h hv
      rw [lessPt_irrefl] at this
      cases this
    · subst h
      exact h3 _ hv ⟨rfl, rfl⟩
    · obtain ⟨d, hd⟩ : ∃ d, ps[i]? = some d := ⟨_, List.getElem?_eq_getElem (by have := lt_of_get hv; omega)⟩
      have h4 := hS.sorted i v d _ h hd hv
      have h5 := h2 i d (Nat.le_refl _) hd
      simp only at h4
      rw [h5] at h4
      cases h4
theorem Shp.less_of_less {ps : List Pt} (hS : Shp ps) {x y : Int} {m k : Nat} {d e : Pt} (he : ps[m]? = some e) (hd : ps[k]? = some d) (h : lessPt e.x e.y x y = true) (hk : k ≤ m) : lessPt d.x d.y x y = true := by
  rcases Nat.lt_or_ge k m with hmk | hmk
  · exact lessPt_trans (hS.sorted k m d e hmk hd he) h
  · obtain rfl : k = m := by omega
    rw [he] at hd
    obtain rfl := Option.some.inj hd
    exact h
theorem Shp.not_less {ps : List Pt} (hS : Shp ps) {x y : Int} {m k : Nat} {d e : Pt} (he : ps[m]? = some e) (hd : ps[k]? = some d) (h : lessPt e.x e.y x y = false) (hk : m ≤ k) : lessPt d.x d.y x y = false := by
  rcases Nat.lt_or_ge m k with hmk | hmk
  · cases hh : lessPt d.x d.y x y with
    | false => rfl
    | true => rw [← h]; exact (lessPt_trans (hS.sorted m k e d hmk he hd) hh).symm
  · obtain rfl : m = k := by omega
    rw [he] at hd
    obtain rfl := Option.some.inj hd
    exact h
theorem plPt_get {xs : List Pl} {k : Nat} {e : Pl} (h : xs[k]? = some e) : (xs.map plPt)[k]? = some ⟨e.x, e.y⟩ := by
  rw [List.getElem?_map, h]; rfl
end Go.Proofs.Ytkppijcjmhkkkaa
/- The rule for regions that draw their order: an append on a row of the call's own. -/



namespace Go.Proofs.Ytkppijcjmhkkkaa
open Go.RowKit
section
variable {P : Program} {ops : Array Oper}
theorem wpD_append {o : Oper} {rest : List (Oper × Tag)} {a : Act} {w : World} {Q : Act → World → Prop} (hgd : o.guard = none) (s x : Operand) (t : TypeId)
    (ho : o.op = .call { callee := .builtin .append, args := #[s, x], argTypes := #[t, t] })
    (base : Nat) (e : TypeId) (i : TypeInfo) (z : Value) (size bytes : Nat) (ht : P.underlying t = some (.slice e)) (hi : P.info? e = some i) (hz : i.zero = some z)
    (hsize : i.size = size) (hby : i.bytes = bytes) (hzs : z.cells.size = size) (hsz : 0 < size)
    (v : Value) (n : Nat) (xs : List Value) (hs : a.eval s = v) (hown : w.ownsRow base e size v n xs)
    (ad : Addr) (m c : Nat) (news : List Value) (hx : a.eval x = .slice (some ad) m c) (hl : news.length = m * size) (hnews : ∀ j u, news[j]? = some u → w.cell? (ad.add j) = some u) (h1 : ∀ u ∈ news, u.oneCell' = true)
    (h63 : n + m ≤ maxLen) (hbytes : (n + m) * bytes ≤ 140737488355328) (hbase : base ≤ w.heap.size)
    (h : ∀ v' w', w'.ownsRow base e size v' (n + m) (xs ++ news) → w.grownBy w' v.ownBlock → wpD P ops Q rest (a.put o.dst v') w') : wpD P ops Q ((o, .b) :: rest) a w := by
  refine wpD_b fun K hK => ?_
  have hw : Region.wanted o (yielded ops a.tmps) = true := by simp [Region.wanted, hgd]
  rw [if_pos hw]
  obtain ⟨v', w', hrun, h2, h3, _⟩ := run_append_own (P := P) w base t o.type e i z size bytes ht hi hz hsize hby hzs hsz v n xs hown ad m c news hl hnews h1 h63 hbytes hbase
  unfold execOp
  simp only [ho, resolve, invoke, builtin, Sem.run_bind, Sem.run_pure, Result.andThen_ok, List.map_toArray, List.map_cons, List.map_nil, hs, hx, hrun]
  exact hK _ _ (h v' w' h2 h3)
end
end Go.Proofs.Ytkppijcjmhkkkaa
