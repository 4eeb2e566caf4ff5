import Derived.Test.YtpnahobgmemdjaaGreatDoorHSys
import Derived.Test.YtpnahobgmemdjaaGreatDoorKH
import Derived.Test.YtpnahobgmemdjaaGreatDoorW15
import Derived.Test.YtpnahobgmemdjaaGreatDoorOrd
import Derived.Laws.AppendOwn
import Derived.OwnWalk
import Derived.Test.YtpnahobgmemdjaaGreatDoorHTo
import Derived.Maps.AppendAt
import Derived.OneCell
import Derived.Test.YtpnahobgmemdjaaGreatDoorW17a
import Derived.Lib.LazyBuf
import Derived.Lib.SliceRun
set_option linter.unusedSimpArgs false
set_option linter.unusedVariables false
/- Walks: the harness' marks on systems. -/


namespace Go.Proofs.YtpnahobgmemdjaaGreatDoor
open Go.RowKit
attribute [local go_sem] BelowBy.cell BelowBy.cell_drew stillUpon givesUpon

theorem MkTiles.setLow {TT TI lo hi : Nat} {w : World} {A : Option Addr} {m : Nat} (h : MkTiles TT TI lo hi w A m) {p : Addr} (hp : p.block < lo) (u : Value) : MkTiles TT TI lo hi (w.setCell p u) A m :=
  h.keep fun k hk _ => Below.heap_setCell w p u k (by omega)
theorem MkRow.setLow {T : TypeId} {size lo hi : Nat} {w : World} {A : Option Addr} {n : Nat} (h : MkRow T size lo hi w A n) {p : Addr} (hp : p.block < lo) (u : Value) : MkRow T size lo hi (w.setCell p u) A n :=
  h.keep fun k hk _ => Below.heap_setCell w p u k (by omega)
theorem MkRow.hi_ {T : TypeId} {size lo hi hi' : Nat} {w : World} {A : Option Addr} {n : Nat} (h : MkRow T size lo hi w A n) (hl : hi ≤ hi') : MkRow T size lo hi' w A n := fun hn => by
  obtain ⟨g, N, f, h1, h2, h3, h4, h5⟩ := h hn
  exact ⟨g, N, f, h1, h2, Nat.lt_of_lt_of_le h3 hl, h4, h5⟩
/-- what may be marked of a system that was copied: the set's blocks lie below md, the seed's from md on -/
structure MkSys (lo md hi : Nat) (w : World) (A B C : Option Addr) (n m q : Nat) : Prop where
  lm : lo ≤ md
  mh : md ≤ hi
  g : MkRow 69 2 lo md w A n
  t : MkTiles 73 2 lo md w B m
  p : MkRow 67 3 md hi w C q
theorem MkSys.below {lo md hi : Nat} {w w' : World} {A B C : Option Addr} {n m q : Nat} (h : MkSys lo md hi w A B C n m q) (hb : Below w.heap.size w w') (hh : hi ≤ w.heap.size) : MkSys lo md hi w' A B C n m q :=
  ⟨h.lm, h.mh, h.g.below hb (Nat.le_trans h.mh hh), h.t.below hb (Nat.le_trans h.mh hh), h.p.below hb hh⟩
theorem MkSys.mkd {lo md hi lo' hi' : Nat} {w w' : World} {A B C : Option Addr} {n m q : Nat} (h : MkSys lo md hi w A B C n m q) (hb : Mk lo' hi' w w') (h1 : hi' ≤ lo) (hh : hi ≤ w.heap.size) : MkSys lo md hi w' A B C n m q :=
  ⟨h.lm, h.mh, h.g.mk hb h1 (Nat.le_trans h.mh hh), h.t.mk hb h1 (Nat.le_trans h.mh hh), h.p.mk hb (Nat.le_trans h1 h.lm) hh⟩
theorem MkSys.lo_ {lo lo' md hi : Nat} {w : World} {A B C : Option Addr} {n m q : Nat} (h : MkSys lo md hi w A B C n m q) (hl : lo' ≤ lo) : MkSys lo' md hi w A B C n m q :=
  ⟨Nat.le_trans hl h.lm, h.mh, h.g.lo_ hl, h.t.lo_ hl, h.p⟩
/-- a system that was copied, and may be marked -/
def ResSysM (TG TT TI TP : Nat) (w : World) (n : Nat) (gs : List Gl) (m : Nat) (ts : List Ti) (q : Nat) (xs : List Pl) (t : Int) (e : Ending) (w' : World) : Prop :=
  ∃ A B C md, e = .returned (.agg #[.slice A n n, .slice B m m, .slice C q q, .int .i64 t]) ∧ OwSl TG 2 RGl w' w.heap.size A n gs ∧ OwSl TT 2 (ROTi TI w.heap.size) w' w.heap.size B m ts ∧ OwSl TP 3 RPl w' w.heap.size C q xs ∧ MkSys w.heap.size md w'.heap.size w' A B C n m q ∧ Below w.heap.size w w'
set_option maxRecDepth 100000 in
set_option maxHeartbeats 1000000 in
theorem markSystem_any (A B C : Option Addr) (n c m d q e k lo md hi : Nat) (t : Int) (w : World) (h : MkSys lo md hi w A B C n m q) (hh : hi ≤ w.heap.size) (hl : lo ≤ w.heap.size) (hk : k + 2 * n + 1073741825 * m + 3 * q ≤ 4611686018427387904) :
    Calls Tryz.prog 7 #[.agg #[.slice A n c, .slice B m d, .slice C q e, .int .i64 t], .int .i64 (k : Int)] w (MkRes2 lo hi w k (k + 2 * n + 1073741825 * m + 3 * q)) := by
  have ha : Below w.heap.size w (w.alloc (.cells #[.slice A n c, .slice B m d, .slice C q e, .int .i64 t] 30)) := bl_al (bl_refl _) _
  have haH := Lib.hid ha
  have h' := Lib.hid (h.below ha hh)
  have lm := h.lm
  have mh := h.mh
  clear h ha
  go_enter Tryz.func7, Tryz.ntmps7
  go_wp2_with fail
  refine (markTileSet_any A B n c m d k lo md _ h'.out.g h'.out.t (by simp; omega) (by simp; omega) (by omega)).mono ?_
  rintro e1 w1 ⟨r, rfl, hr1, hr2, hm1⟩
  have hs1 := hm1.size
  have y1 : w1.cell? ⟨w.heap.size, 2, none⟩ = some (.slice C q e) := (World.cell?_of_block (a := ⟨w.heap.size, 2, none⟩) (hm1.keep w.heap.size (by omega) (by simp))).trans (by go_simp)
  have l1 : w.heap.size < w1.heap.size := by simp at hs1; omega
  have hm1H := Lib.hid hm1
  have hp := Lib.hid (h'.out.p.mk hm1 (Nat.le_refl _) (by simp; omega))
  clear hm1
  go_wp2_with fail
  refine (markAssembly_any2 C q e r md hi _ hp.out (by omega) (by omega) (by omega)).mono ?_
  rintro e2 w2 ⟨r2, rfl, hr3, hr4, hm2⟩
  have hm2H := Lib.hid hm2
  clear hm2
  go_wp2
  go_ret
  exact ⟨r2, rfl, by omega, by omega, (Mk.of_below haH.out hl).trans ((hm1H.out.weaken (Nat.le_refl _) mh).trans (hm2H.out.weaken lm (Nat.le_refl _)))⟩
end Go.Proofs.YtpnahobgmemdjaaGreatDoor
/- Rows of rows that a call has made: no two of them lie in one block. -/

namespace Go.Proofs.YtpnahobgmemdjaaGreatDoor
open Go.RowKit
/-- v owns a row of the slices us; each of these owns a row of cells; no two lie in one block -/
structure Own2 (w : World) (base : Nat) (T E : TypeId) (size : Nat) (v : Value) (us : List Value) (rows : List (List Value)) : Prop where
  outer : w.ownsRow base T 1 v us.length us
  len : us.length = rows.length
  inner : ∀ (k : Nat) (u : Value) (r : List Value), us[k]? = some u → rows[k]? = some r → ∃ n, w.ownsRow base E size u n r
  apart : ∀ (j k : Nat) (u u' : Value) (g : Nat), us[j]? = some u → us[k]? = some u' → u.ownBlock = some g → u'.ownBlock = some g → j = k
  off : ∀ (k : Nat) (u : Value) (g : Nat), us[k]? = some u → u.ownBlock = some g → v.ownBlock ≠ some g
section
variable {w w' : World} {base : Nat} {T E : TypeId} {size : Nat} {v : Value} {us : List Value} {rows : List (List Value)}
theorem Own2.nil (w : World) (base : Nat) (T E : TypeId) (size : Nat) : Own2 w base T E size (.slice none 0 0) [] [] :=
  ⟨World.ownsRow_nil _ _ _ _, rfl, fun k u r h => by simp at h, fun j k u u' g h => by simp at h, fun k u g h => by simp at h⟩
/-- an empty row that was made -/
theorem Own2.made {n : Nat} {cs : Array Value} (hb : base ≤ w.heap.size) (hs : cs.size = 0) (h : (w.alloc (.cells cs T)).ownsRow base T 1 v 0 []) : Own2 (w.alloc (.cells cs T)) base T E size v [] [] :=
  ⟨h, rfl, fun k u r h => by simp at h, fun j k u u' g h => by simp at h, fun k u g h => by simp at h⟩
theorem Own2.of_empty (h : w.ownsRow base T 1 v 0 []) : Own2 w base T E size v [] [] :=
  ⟨h, rfl, fun k u r h => by simp at h, fun j k u u' g h => by simp at h, fun k u g h => by simp at h⟩
theorem Own2.get (h : Own2 w base T E size v us rows) {k : Nat} {u : Value} (hu : us[k]? = some u) : ∃ n r, rows[k]? = some r ∧ w.ownsRow base E size u n r := by
  have hk := (List.getElem?_eq_some_iff.1 hu).1
  have hr := List.getElem?_eq_getElem (l := rows) (i := k) (by rw [← h.len]; exact hk)
  obtain ⟨n, hn⟩ := h.inner k u _ hu hr
  exact ⟨n, _, hr, hn⟩
theorem Own2.outerN {N : Nat} (h : Own2 w base T E size v us rows) (hN : us.length = N) : w.ownsRow base T 1 v N us := hN ▸ h.outer
theorem Own2.lt (h : Own2 w base T E size v us rows) : ∀ g, v.ownBlock = some g → base ≤ g ∧ g < w.heap.size := h.outer.lt
theorem Own2.ltIn (h : Own2 w base T E size v us rows) {k : Nat} {u : Value} (hu : us[k]? = some u) : ∀ g, u.ownBlock = some g → base ≤ g ∧ g < w.heap.size := by
  obtain ⟨n, r, _, hr⟩ := h.get hu
  exact hr.lt
/-- whatever turns another block -/
theorem Own2.kept {row : Option Nat} (h : Own2 w base T E size v us rows) (hg : w.grownBy w' row) (h1 : ∀ g, row = some g → v.ownBlock ≠ some g ∧ ∀ (k : Nat) (u : Value), us[k]? = some u → u.ownBlock ≠ some g) : Own2 w' base T E size v us rows := by
  have ho : ∀ x : Value, (∀ g, row = some g → x.ownBlock ≠ some g) → x.ownBlock = none ∨ x.ownBlock ≠ row := fun x hx => by
    cases hb : x.ownBlock with
    | none => exact .inl rfl
    | some g => exact .inr fun e => hx g e.symm hb
  refine ⟨h.outer.kept hg (ho v fun g e => (h1 g e).1), h.len, fun k u r hu hr => ?_, h.apart, h.off⟩
  obtain ⟨n, hn⟩ := h.inner k u r hu hr
  exact ⟨n, hn.kept hg (ho u fun g e => (h1 g e).2 k u hu)⟩
theorem Own2.below (h : Own2 w base T E size v us rows) (hb : Below w.heap.size w w') : Own2 w' base T E size v us rows :=
  h.kept (grown_below hb none) (fun g e => by cases e)
theorem Own2.alloc (h : Own2 w base T E size v us rows) (o : Obj) : Own2 (w.alloc o) base T E size v us rows :=
  h.kept (World.grownBy_alloc w o none) (fun g e => by cases e)
theorem Own2.rebase (h : Own2 w base T E size v us rows) {base' : Nat} (hb : base' ≤ base) : Own2 w base' T E size v us rows := by
  have hd : ∀ {e s x n xs}, w.ownsRow base e s x n xs → w.ownsRow base' e s x n xs := fun h => ⟨h.1, h.2.imp id (fun ⟨g, cap, cur, h1, h2, h3⟩ => ⟨g, cap, cur, h1, Nat.le_trans hb h2, h3⟩)⟩
  exact ⟨hd h.outer, h.len, fun k u r hu hr => (h.inner k u r hu hr).imp fun n hn => hd hn, h.apart, h.off⟩
/-- a store below its base -/
theorem Own2.setBelow (h : Own2 w base T E size v us rows) {p : Addr} (hp : p.block < base) (x : Value) : Own2 (w.setCell p x) base T E size v us rows := by
  refine h.kept (row := some p.block) ⟨rfl, rfl, rfl, by simp, fun k hk hne => Below.heap_setCell _ _ _ _ (fun e => hne (by rw [e]))⟩ (fun g e => ?_)
  injection e with e
  subst e
  refine ⟨fun e => ?_, fun k u hu e => ?_⟩
  · have := (h.lt _ e).1; omega
  · have := (h.ltIn hu _ e).1; omega
/-- one more row: the slice x, which owns the row r -/
theorem Own2.push {w1 : World} {v' x : Value} {N n : Nat} {r : List Value} (h : Own2 w1 base T E size v us rows) (hN : us.length = N) (hx : w1.ownsRow base E size x n r)
    (hd : ∀ g, x.ownBlock = some g → v.ownBlock ≠ some g ∧ ∀ (k : Nat) (u : Value), us[k]? = some u → u.ownBlock ≠ some g)
    (hown : w'.ownsRow base T 1 v' (N + 1) (us ++ [x])) (hg : w1.grownBy w' v.ownBlock) (hat : v'.ownBlock = v.ownBlock ∨ v'.ownBlock = some w1.heap.size) : Own2 w' base T E size v' (us ++ [x]) (rows ++ [r]) := by
  subst hN
  have hk : ∀ {u : Value} {n : Nat} {r : List Value}, w1.ownsRow base E size u n r → (∀ g, u.ownBlock = some g → v.ownBlock ≠ some g) → w'.ownsRow base E size u n r := fun {u n r} hu hne => by
    refine hu.kept hg ?_
    cases hb : u.ownBlock with
    | none => exact .inl rfl
    | some g => exact .inr fun e => hne g hb e.symm
  have hcase : ∀ {k : Nat} {u : Value}, (us ++ [x])[k]? = some u → (k < us.length ∧ us[k]? = some u) ∨ (k = us.length ∧ u = x) := fun {k u} hu => by
    rcases Nat.lt_or_ge k us.length with hlt | hge
    · rw [List.getElem?_append_left hlt] at hu
      exact .inl ⟨hlt, hu⟩
    · have hlt := (List.getElem?_eq_some_iff.1 hu).1
      simp at hlt
      obtain rfl : k = us.length := by omega
      simp at hu
      exact .inr ⟨rfl, hu.symm⟩
  refine ⟨by simpa using hown, by simp [h.len], fun k u q hu hq => ?_, fun j k u u' g hu0 hu' hb hb' => ?_, fun k u g hu hb e => ?_⟩
  · rcases hcase hu with ⟨hlt, hu⟩ | ⟨rfl, rfl⟩
    · rw [List.getElem?_append_left (by rw [← h.len]; exact hlt)] at hq
      obtain ⟨m, hm⟩ := h.inner k u q hu hq
      exact ⟨m, hk hm fun g hg => h.off k u g hu hg⟩
    · rw [h.len] at hq
      simp at hq
      subst hq
      exact ⟨n, hk hx fun g hg => (hd g hg).1⟩
  · rcases hcase hu0 with ⟨hlt, hu⟩ | ⟨rfl, rfl⟩
    · clear hu0
      rcases hcase hu' with ⟨hlt', hu'⟩ | ⟨rfl, rfl⟩
      · exact h.apart j k u u' g hu hu' hb hb'
      · exact ((hd g hb').2 j u hu hb).elim
    · rcases hcase hu' with ⟨hlt', hu'⟩ | ⟨rfl, rfl⟩
      · exact ((hd g hb).2 k u' hu' hb').elim
      · rfl
  · rcases hcase hu with ⟨hlt, hu⟩ | ⟨rfl, rfl⟩
    · rcases hat with hat | hat
      · exact h.off k u g hu hb (hat ▸ e)
      · have := (h.ltIn hu g hb).2
        rw [hat] at e
        injection e with e
        omega
    · rcases hat with hat | hat
      · exact (hd g hb).1 (hat ▸ e)
      · have := (hx.lt g hb).2
        rw [hat] at e
        injection e with e
        omega
/-- row k grows: the slice u was appended to (in w1) and is stored back (into block g) -/
theorem Own2.grow {w1 : World} {N k g cap n' : Nat} {u u' : Value} {r' : List Value} (h : Own2 w1 base T E size (.slice (some ⟨g, 0, none⟩) N cap) us rows) (hN : us.length = N) (hu : us[k]? = some u)
    (hown : w'.ownsRow base E size u' n' r') (hg : w1.grownBy w' u.ownBlock) (hat : u'.ownBlock = u.ownBlock ∨ u'.ownBlock = some w1.heap.size) :
    Own2 (w'.setCell ⟨g, k, none⟩ u') base T E size (.slice (some ⟨g, 0, none⟩) N cap) (us.set k u') (rows.set k r') := by
  subst hN
  have hgl := (h.lt g rfl)
  have hug : u.ownBlock ≠ some g := fun e => h.off k u g hu e rfl
  have hu'g : u'.ownBlock ≠ some g := fun e => by
    rcases hat with hat | hat
    · exact hug (hat ▸ e)
    · rw [hat] at e
      injection e with e
      omega
  have hgn : (w').grownBy (w'.setCell ⟨g, k, none⟩ u') (some g) := ⟨rfl, rfl, rfl, by simp, fun i hi hne => Below.heap_setCell _ _ _ _ (fun e => hne (by rw [e]))⟩
  have ho1 : w'.ownsRow base T 1 (.slice (some ⟨g, 0, none⟩) us.length cap) us.length us := h.outer.kept hg (.inr fun e => hug e.symm)
  have ho2 := (ho1.stored k u').1
  have hne2 : ∀ {x : Value}, x.ownBlock ≠ some g → x.ownBlock = none ∨ x.ownBlock ≠ some g := fun h => .inr h
  have hcase : ∀ {j : Nat} {x : Value}, (us.set k u')[j]? = some x → (j ≠ k ∧ us[j]? = some x) ∨ (j = k ∧ x = u') := fun {j x} hx => by
    by_cases e : j = k
    · subst e
      rw [List.getElem?_set_self (List.getElem?_eq_some_iff.1 hu).1] at hx
      exact .inr ⟨rfl, (Option.some.inj hx).symm⟩
    · rw [List.getElem?_set_ne (fun e' => e e'.symm)] at hx
      exact .inl ⟨e, hx⟩
  have hnb : ∀ {j : Nat} {x : Value} {b : Nat}, us[j]? = some x → j ≠ k → x.ownBlock = some b → u'.ownBlock ≠ some b := fun {j x b} hx hj hb e => by
    rcases hat with hat | hat
    · exact hj (h.apart j k x u b hx hu hb (hat ▸ e))
    · have := (h.ltIn hx b hb).2
      rw [hat] at e
      injection e with e
      omega
  refine ⟨by simpa using ho2, by simp [h.len], fun j x q hx hq => ?_, fun i j x y b hx0 hy0 hb hb' => ?_, fun j x b hx hb e => ?_⟩
  · rcases hcase hx with ⟨hj, hx⟩ | ⟨rfl, rfl⟩
    · rw [List.getElem?_set_ne (fun e' => hj e'.symm)] at hq
      obtain ⟨p, hp⟩ := h.inner j x q hx hq
      refine ⟨p, (hp.kept hg ?_).kept hgn (hne2 fun e => h.off j x g hx e rfl)⟩
      cases hb : x.ownBlock with
      | none => exact .inl rfl
      | some b => exact .inr fun e => hj (h.apart j k x u b hx hu hb e.symm)
    · rw [List.getElem?_set_self (by rw [← h.len]; exact (List.getElem?_eq_some_iff.1 hu).1)] at hq
      obtain rfl := Option.some.inj hq
      exact ⟨n', hown.kept hgn (hne2 hu'g)⟩
  · rcases hcase hx0 with ⟨hi, hx⟩ | ⟨rfl, rfl⟩
    · clear hx0
      rcases hcase hy0 with ⟨hj, hy⟩ | ⟨rfl, rfl⟩
      · exact h.apart i j x y b hx hy hb hb'
      · exact (hnb hx hi hb hb').elim
    · clear hx0
      rcases hcase hy0 with ⟨hj, hy⟩ | ⟨rfl, rfl⟩
      · exact (hnb hy hj hb' hb).elim
      · rfl
  · rcases hcase hx with ⟨hj, hx⟩ | ⟨rfl, rfl⟩
    · exact h.off j x b hx hb e
    · injection e with e
      subst e
      exact hu'g hb
theorem Own2.form {N : Nat} (h : Own2 w base T E size v us rows) (hN : us.length = N) : ∃ A cap, v = .slice A N cap := by
  subst hN
  rcases h.outer.2 with ⟨rfl, h0⟩ | ⟨g, cap, cur, rfl, _⟩
  · exact ⟨none, 0, by rw [h0]⟩
  · exact ⟨_, cap, rfl⟩
theorem Own2.formPos {N : Nat} (h : Own2 w base T E size v us rows) (hN : us.length = N) (hp : 0 < N) : ∃ g cap, v = .slice (some ⟨g, 0, none⟩) N cap := by
  subst hN
  rcases h.outer.2 with ⟨rfl, h0⟩ | ⟨g, cap, cur, rfl, _⟩
  · omega
  · exact ⟨_, cap, rfl⟩
theorem Own2.keptBelow {row : Option Nat} (h : Own2 w base T E size v us rows) (hg : w.grownBy w' row) (hr : ∀ g, row = some g → g < base) : Own2 w' base T E size v us rows :=
  h.kept hg fun g e => ⟨fun e' => by have := (h.lt g e').1; have := hr g e; omega, fun k u hu e' => by have := (h.ltIn hu g e').1; have := hr g e; omega⟩
/-- the outer row behind an append to row k -/
theorem Own2.after {N g cap k : Nat} {u : Value} (h : Own2 w base T E size (.slice (some ⟨g, 0, none⟩) N cap) us rows) (hN : us.length = N) (hu : us[k]? = some u) (hg : w.grownBy w' u.ownBlock) : w'.cell? ⟨g, k, none⟩ = some u ∧ w'.frozen? ⟨g, k, none⟩ = false ∧ g < w'.heap.size ∧ base ≤ g := by
  subst hN
  have hne : u.ownBlock ≠ some g := fun e => h.off k u g hu e rfl
  have ho : w'.ownsRow base T 1 (.slice (some ⟨g, 0, none⟩) us.length cap) us.length us := h.outer.kept hg (.inr fun e => hne e.symm)
  have hl := ho.lt g rfl
  exact ⟨(ho.cellAt k (by have := (List.getElem?_eq_some_iff.1 hu).1; omega)).trans hu, ho.frozenAt k, hl.2, hl.1⟩
theorem Own2.cellAt {N g cap k : Nat} {u : Value} (h : Own2 w base T E size (.slice (some ⟨g, 0, none⟩) N cap) us rows) (hN : us.length = N) (hu : us[k]? = some u) : w.cell? ⟨g, k, none⟩ = some u ∧ w.frozen? ⟨g, k, none⟩ = false ∧ g < w.heap.size := by
  subst hN
  exact ⟨(h.outer.cellAt k (by have := (List.getElem?_eq_some_iff.1 hu).1; omega)).trans hu, h.outer.frozenAt k, (h.outer.lt g rfl).2⟩
theorem ownsRow_form {w : World} {base : Nat} {e : TypeId} {size : Nat} {v : Value} {n : Nat} {xs : List Value} (h : w.ownsRow base e size v n xs) : ∃ A cap, v = .slice A n cap := by
  rcases h.2 with ⟨rfl, rfl⟩ | ⟨g, cap, cur, rfl, _⟩
  · exact ⟨none, 0, rfl⟩
  · exact ⟨_, cap, rfl⟩
theorem below_app {B0 : Nat} {W w2 : World} {o : Obj} {row : Option Nat} (hB : B0 ≤ W.heap.size) (hu : ∀ g, row = some g → B0 ≤ g) (hg : (W.alloc o).grownBy w2 row) : Below B0 W w2 :=
  ((Below.refl B0 W).alloc hB o).grown hg (by simp; omega) hu
end
end Go.Proofs.YtpnahobgmemdjaaGreatDoor
/- The rule for regions that draw their order: an append on a row of the call's own. -/



namespace Go.Proofs.YtpnahobgmemdjaaGreatDoor
open Go.RowKit
section
variable {P : Program} {ops : Array Oper}
theorem wpD_append {o : Oper} {rest : List (Oper × Tag)} {a : Act} {w : World} {Q : Act → World → Prop} (hgd : o.guard = none) (s x : Operand) (t : TypeId)
    (ho : o.op = .call { callee := .builtin .append, args := #[s, x], argTypes := #[t, t] })
    (base : Nat) (e : TypeId) (i : TypeInfo) (z : Value) (size bytes : Nat) (ht : P.underlying t = some (.slice e)) (hi : P.info? e = some i) (hz : i.zero = some z)
    (hsize : i.size = size) (hby : i.bytes = bytes) (hzs : z.cells.size = size) (hsz : 0 < size)
    (v : Value) (n : Nat) (xs : List Value) (hs : a.eval s = v) (hown : w.ownsRow base e size v n xs)
    (ad : Addr) (m c : Nat) (news : List Value) (hx : a.eval x = .slice (some ad) m c) (hl : news.length = m * size) (hnews : ∀ j u, news[j]? = some u → w.cell? (ad.add j) = some u) (h1 : ∀ u ∈ news, u.oneCell' = true)
    (h63 : n + m ≤ maxLen) (hbytes : (n + m) * bytes ≤ 140737488355328) (hbase : base ≤ w.heap.size)
    (h : ∀ v' w', w'.ownsRow base e size v' (n + m) (xs ++ news) → w.grownBy w' v.ownBlock → wpD P ops Q rest (a.put o.dst v') w') : wpD P ops Q ((o, .b) :: rest) a w := by
  refine wpD_b fun K hK => ?_
  have hw : Region.wanted o (yielded ops a.tmps) = true := by simp [Region.wanted, hgd]
  rw [if_pos hw]
  obtain ⟨v', w', hrun, h2, h3, _⟩ := run_append_own (P := P) w base t o.type e i z size bytes ht hi hz hsize hby hzs hsz v n xs hown ad m c news hl hnews h1 h63 hbytes hbase
  unfold execOp
  simp only [ho, resolve, invoke, builtin, Sem.run_bind, Sem.run_pure, Result.andThen_ok, List.map_toArray, List.map_cons, List.map_nil, hs, hx, hrun]
  exact hK _ _ (h v' w' h2 h3)
end
end Go.Proofs.YtpnahobgmemdjaaGreatDoor
/- Rows of tiles that a call made: each tile's sides in a row of its own, no two in one block; rows of cells said by a code of their elements. -/




namespace Go.Proofs.YtpnahobgmemdjaaGreatDoor
open Go.RowKit Go.Shelf
/-- the cells of a row whose elements are coded by enc -/
def flatC {α : Type} (enc : α → List Value) : List α → List Value
  | [] => []
  | a :: l => enc a ++ flatC enc l
section
variable {α : Type} {enc : α → List Value} {size : Nat}
theorem flatC_len (h : ∀ a, (enc a).length = size) (l : List α) : (flatC enc l).length = l.length * size := by
  induction l with
  | nil => simp [flatC]
  | cons a l ih => rw [flatC, List.length_append, h, ih, List.length_cons, Nat.succ_mul]; omega
theorem flatC_snoc (l : List α) (a : α) : flatC enc (l ++ [a]) = flatC enc l ++ enc a := by
  induction l with
  | nil => simp [flatC]
  | cons b l ih => simp [flatC, ih]
theorem flatC_one (h : ∀ a, ∀ u ∈ enc a, u.oneCell' = true) (l : List α) : ∀ u ∈ flatC enc l, u.oneCell' = true := by
  induction l with
  | nil => simp [flatC]
  | cons a l ih =>
    intro u hu
    rw [flatC, List.mem_append] at hu
    rcases hu with hu | hu
    · exact h a u hu
    · exact ih u hu
theorem flatC_get (h : ∀ a, (enc a).length = size) : ∀ (l : List α) (k : Nat) (e : α), l[k]? = some e → ∀ j, j < size → (flatC enc l)[k * size + j]? = (enc e)[j]?
  | [], k, e, he => by simp at he
  | a :: l, 0, e, he => fun j hj => by
    simp at he
    subst he
    rw [flatC, Nat.zero_mul, Nat.zero_add, List.getElem?_append_left (by rw [h]; exact hj)]
  | a :: l, k + 1, e, he => fun j hj => by
    have := flatC_get h l k e (by simpa using he) j hj
    rw [flatC, List.getElem?_append_right (by rw [h, Nat.succ_mul]; omega), h, ← this]
    congr 1
    rw [Nat.succ_mul]; omega
theorem flatC_of_rd (hs : 0 < size) (h : ∀ a, (enc a).length = size) {w : World} {b o : Nat} {xs : List α} (hr : ∀ k e, xs[k]? = some e → ∀ j u, (enc e)[j]? = some u → w.cell? ⟨b, o + k * size + j, none⟩ = some u) :
    ∀ j u, (flatC enc xs)[j]? = some u → w.cell? ((⟨b, o, none⟩ : Addr).add j) = some u := by
  intro j u hj
  have hlt := (List.getElem?_eq_some_iff.1 hj).1
  rw [flatC_len h] at hlt
  have hk : j / size < xs.length := Nat.div_lt_of_lt_mul (by rw [Nat.mul_comm]; exact hlt)
  have hd : j / size * size + j % size = j := by rw [Nat.mul_comm]; exact Nat.div_add_mod j size
  have hm : j % size < size := Nat.mod_lt _ hs
  have hg := flatC_get h xs (j / size) _ (List.getElem?_eq_getElem hk) (j % size) hm
  rw [hd, hj] at hg
  have := hr (j / size) _ (List.getElem?_eq_getElem hk) (j % size) u hg.symm
  rw [Nat.add_assoc, hd] at this
  rw [Addr.add_lit]; exact this
theorem rd_of_flat (h : ∀ a, (enc a).length = size) {W : World} {base : Nat} {T : TypeId} {v : Value} {xs : List α} (hr : W.ownsRow base T size v xs.length (flatC enc xs)) :
    ∃ A cap, v = .slice A xs.length cap ∧ (0 < xs.length → ∃ g, A = some ⟨g, 0, none⟩ ∧ base ≤ g ∧ g < W.heap.size ∧ ∀ k e, xs[k]? = some e → ∀ j u, (enc e)[j]? = some u → W.cell? ⟨g, k * size + j, none⟩ = some u) := by
  rcases hr.2 with ⟨rfl, h0⟩ | ⟨g, cap, cur, rfl, hb, hh, hn, hm, hs, ht⟩
  · exact ⟨none, 0, by rw [h0], fun hp => by omega⟩
  · refine ⟨_, cap, rfl, fun hp => ⟨g, rfl, hb, (Array.getElem?_eq_some_iff.1 hh).1, fun k e he j u hu => ?_⟩⟩
    have hj : j < size := by have := (List.getElem?_eq_some_iff.1 hu).1; rw [h] at this; exact this
    have hg := flatC_get h xs k e he j hj
    rw [← ht, hu, List.getElem?_take] at hg
    split at hg
    · simp only [World.cell?, hh]
      simpa using hg
    · cases hg
end
theorem ownsRow_lo {w : World} {base base' : Nat} {e : TypeId} {size : Nat} {v : Value} {n : Nat} {xs : List Value} (h : w.ownsRow base e size v n xs) (hb : base' ≤ base) : w.ownsRow base' e size v n xs :=
  ⟨h.1, h.2.imp id (fun ⟨g, cap, cur, h1, h2, h3⟩ => ⟨g, cap, cur, h1, Nat.le_trans hb h2, h3⟩)⟩
theorem ownsRow_setB {w : World} {base : Nat} {e : TypeId} {size : Nat} {v : Value} {n : Nat} {xs : List Value} (h : w.ownsRow base e size v n xs) {p : Addr} (hp : p.block < base) (x : Value) : (w.setCell p x).ownsRow base e size v n xs := by
  refine h.kept (row := some p.block) ⟨rfl, rfl, rfl, by simp, fun k hk hne => Below.heap_setCell _ _ _ _ (fun e => hne (by rw [e]))⟩ ?_
  cases hb : v.ownBlock with
  | none => exact .inl rfl
  | some g => exact .inr fun e' => by have := (h.lt g hb).1; injection e'; omega
def encGl (e : Gl) : List Value := [.string e.name, .int .i64 e.s]
def encI (e : Int) : List Value := [.int .i64 e]
def encNU (e : ByteArray × Value) : List Value := [.string e.1, e.2]
theorem encGl_len (e : Gl) : (encGl e).length = 2 := rfl
theorem encI_len (e : Int) : (encI e).length = 1 := rfl
theorem encNU_len (e : ByteArray × Value) : (encNU e).length = 2 := rfl
theorem encGl_one (e : Gl) : ∀ u ∈ encGl e, u.oneCell' = true := fun u hu => by simp [encGl] at hu; rcases hu with rfl | rfl <;> rfl
theorem encI_one (e : Int) : ∀ u ∈ encI e, u.oneCell' = true := fun u hu => by simp [encI] at hu; subst hu; rfl
theorem rdGl_of_flat {W : World} {base : Nat} {T : TypeId} {v : Value} {xs : List Gl} (hr : W.ownsRow base T 2 v xs.length (flatC encGl xs)) : ∃ A cap, v = .slice A xs.length cap ∧ RdSl 2 RGl W A xs.length xs := by
  obtain ⟨A, cap, hv, h⟩ := rd_of_flat encGl_len hr
  refine ⟨A, cap, hv, rfl, fun hp => ?_⟩
  obtain ⟨g, hA, _, hg, hc⟩ := h hp
  exact ⟨g, 0, hA, hg, fun k hk => by
    have h0 := hc k _ (List.getElem?_eq_getElem hk) 0 _ rfl
    have h1 := hc k _ (List.getElem?_eq_getElem hk) 1 _ rfl
    rw [Nat.zero_add]; exact ⟨h0, h1⟩⟩
theorem rdI_of_flat {W : World} {base : Nat} {T : TypeId} {v : Value} {xs : List Int} (hr : W.ownsRow base T 1 v xs.length (flatC encI xs)) : ∃ A cap, v = .slice A xs.length cap ∧ RdSl 1 RInt W A xs.length xs := by
  obtain ⟨A, cap, hv, h⟩ := rd_of_flat encI_len hr
  refine ⟨A, cap, hv, rfl, fun hp => ?_⟩
  obtain ⟨g, hA, _, hg, hc⟩ := h hp
  exact ⟨g, 0, hA, hg, fun k hk => by
    have h0 := hc k _ (List.getElem?_eq_getElem hk) 0 _ rfl
    rw [Nat.zero_add]; exact h0⟩
/-- v owns a row of tiles: names and slices us; each slice owns its sides; no two lie in one block -/
structure OwnT (w : World) (base : Nat) (T E : TypeId) (v : Value) (us : List Value) (ts : List Ti) : Prop where
  len : us.length = ts.length
  outer : w.ownsRow base T 2 v us.length (flatC encNU ((ts.map Ti.name).zip us))
  inner : ∀ (k : Nat) (u : Value) (t : Ti), us[k]? = some u → ts[k]? = some t → w.ownsRow base E 1 u t.sides.length (flatC encI t.sides)
  apart : ∀ (j k : Nat) (u u' : Value) (g : Nat), us[j]? = some u → us[k]? = some u' → u.ownBlock = some g → u'.ownBlock = some g → j = k
  off : ∀ (k : Nat) (u : Value) (g : Nat), us[k]? = some u → u.ownBlock = some g → v.ownBlock ≠ some g
section
variable {w w' : World} {base : Nat} {T E : TypeId} {v : Value} {us : List Value} {ts : List Ti}
theorem OwnT.of_empty (h : w.ownsRow base T 2 v 0 []) : OwnT w base T E v [] [] :=
  ⟨rfl, h, fun k u r h => by simp at h, fun j k u u' g h => by simp at h, fun k u g h => by simp at h⟩
theorem OwnT.nil (w : World) (base : Nat) (T E : TypeId) : OwnT w base T E (.slice none 0 0) [] [] := OwnT.of_empty (World.ownsRow_nil _ _ _ _)
theorem OwnT.get (h : OwnT w base T E v us ts) {k : Nat} {u : Value} (hu : us[k]? = some u) : ∃ t, ts[k]? = some t ∧ w.ownsRow base E 1 u t.sides.length (flatC encI t.sides) := by
  have hk := (List.getElem?_eq_some_iff.1 hu).1
  have hr := List.getElem?_eq_getElem (l := ts) (i := k) (by rw [← h.len]; exact hk)
  exact ⟨_, hr, h.inner k u _ hu hr⟩
theorem OwnT.lt (h : OwnT w base T E v us ts) : ∀ g, v.ownBlock = some g → base ≤ g ∧ g < w.heap.size := h.outer.lt
theorem OwnT.ltIn (h : OwnT w base T E v us ts) {k : Nat} {u : Value} (hu : us[k]? = some u) : ∀ g, u.ownBlock = some g → base ≤ g ∧ g < w.heap.size := by
  obtain ⟨t, _, hr⟩ := h.get hu
  exact hr.lt
theorem OwnT.kept {row : Option Nat} (h : OwnT w base T E v us ts) (hg : w.grownBy w' row) (h1 : ∀ g, row = some g → v.ownBlock ≠ some g ∧ ∀ (k : Nat) (u : Value), us[k]? = some u → u.ownBlock ≠ some g) : OwnT w' base T E v us ts := by
  have ho : ∀ x : Value, (∀ g, row = some g → x.ownBlock ≠ some g) → x.ownBlock = none ∨ x.ownBlock ≠ row := fun x hx => by
    cases hb : x.ownBlock with
    | none => exact .inl rfl
    | some g => exact .inr fun e => hx g e.symm hb
  exact ⟨h.len, h.outer.kept hg (ho v fun g e => (h1 g e).1), fun k u r hu hr => (h.inner k u r hu hr).kept hg (ho u fun g e => (h1 g e).2 k u hu), h.apart, h.off⟩
theorem OwnT.below (h : OwnT w base T E v us ts) (hb : Below w.heap.size w w') : OwnT w' base T E v us ts :=
  h.kept (grown_below hb none) (fun g e => by cases e)
theorem OwnT.alloc (h : OwnT w base T E v us ts) (o : Obj) : OwnT (w.alloc o) base T E v us ts :=
  h.kept (World.grownBy_alloc w o none) (fun g e => by cases e)
theorem OwnT.rebase (h : OwnT w base T E v us ts) {base' : Nat} (hb : base' ≤ base) : OwnT w base' T E v us ts := by
  have hd : ∀ {e s x n xs}, w.ownsRow base e s x n xs → w.ownsRow base' e s x n xs := fun h => ⟨h.1, h.2.imp id (fun ⟨g, cap, cur, h1, h2, h3⟩ => ⟨g, cap, cur, h1, Nat.le_trans hb h2, h3⟩)⟩
  exact ⟨h.len, hd h.outer, fun k u r hu hr => hd (h.inner k u r hu hr), h.apart, h.off⟩
theorem OwnT.setBelow (h : OwnT w base T E v us ts) {p : Addr} (hp : p.block < base) (x : Value) : OwnT (w.setCell p x) base T E v us ts := by
  refine h.kept (row := some p.block) ⟨rfl, rfl, rfl, by simp, fun k hk hne => Below.heap_setCell _ _ _ _ (fun e => hne (by rw [e]))⟩ (fun g e => ?_)
  injection e with e
  subst e
  refine ⟨fun e => ?_, fun k u hu e => ?_⟩
  · have := (h.lt _ e).1; omega
  · have := (h.ltIn hu _ e).1; omega
/-- one more tile t, whose sides the slice x owns -/
theorem OwnT.push {w1 : World} {v' x : Value} {N : Nat} {t : Ti} (h : OwnT w1 base T E v us ts) (hN : us.length = N) (hx : w1.ownsRow base E 1 x t.sides.length (flatC encI t.sides))
    (hd : ∀ g, x.ownBlock = some g → v.ownBlock ≠ some g ∧ ∀ (k : Nat) (u : Value), us[k]? = some u → u.ownBlock ≠ some g)
    (hown : w'.ownsRow base T 2 v' (N + 1) (flatC encNU ((ts.map Ti.name).zip us) ++ [.string t.name, x])) (hg : w1.grownBy w' v.ownBlock) (hat : v'.ownBlock = v.ownBlock ∨ v'.ownBlock = some w1.heap.size) : OwnT w' base T E v' (us ++ [x]) (ts ++ [t]) := by
  subst hN
  have hk : ∀ {u : Value} {n : Nat} {r : List Value}, w1.ownsRow base E 1 u n r → (∀ g, u.ownBlock = some g → v.ownBlock ≠ some g) → w'.ownsRow base E 1 u n r := fun {u n r} hu hne => by
    refine hu.kept hg ?_
    cases hb : u.ownBlock with
    | none => exact .inl rfl
    | some g => exact .inr fun e => hne g hb e.symm
  have hcase : ∀ {k : Nat} {u : Value}, (us ++ [x])[k]? = some u → (k < us.length ∧ us[k]? = some u) ∨ (k = us.length ∧ u = x) := fun {k u} hu => by
    rcases Nat.lt_or_ge k us.length with hlt | hge
    · rw [List.getElem?_append_left hlt] at hu
      exact .inl ⟨hlt, hu⟩
    · have hlt := (List.getElem?_eq_some_iff.1 hu).1
      simp at hlt
      obtain rfl : k = us.length := by omega
      simp at hu
      exact .inr ⟨rfl, hu.symm⟩
  refine ⟨by simp [h.len], ?_, fun k u q hu hq => ?_, fun j k u u' g hu0 hu' hb hb' => ?_, fun k u g hu hb e => ?_⟩
  · rw [List.map_append, List.zip_append (by simp [h.len]), List.length_append, List.length_singleton]
    show w'.ownsRow base T 2 v' (us.length + 1) (flatC encNU ((ts.map Ti.name).zip us ++ [(t.name, x)]))
    rw [flatC_snoc]; exact hown
  · rcases hcase hu with ⟨hlt, hu⟩ | ⟨rfl, rfl⟩
    · rw [List.getElem?_append_left (by rw [← h.len]; exact hlt)] at hq
      exact hk (h.inner k u q hu hq) fun g hg => h.off k u g hu hg
    · rw [h.len] at hq
      simp at hq
      subst hq
      exact hk hx fun g hg => (hd g hg).1
  · rcases hcase hu0 with ⟨hlt, hu⟩ | ⟨rfl, rfl⟩
    · clear hu0
      rcases hcase hu' with ⟨hlt', hu'⟩ | ⟨rfl, rfl⟩
      · exact h.apart j k u u' g hu hu' hb hb'
      · exact ((hd g hb').2 j u hu hb).elim
    · rcases hcase hu' with ⟨hlt', hu'⟩ | ⟨rfl, rfl⟩
      · exact ((hd g hb).2 k u' hu' hb').elim
      · rfl
  · rcases hcase hu with ⟨hlt, hu⟩ | ⟨rfl, rfl⟩
    · rcases hat with hat | hat
      · exact h.off k u g hu hb (hat ▸ e)
      · have := (h.ltIn hu g hb).2
        rw [hat] at e
        injection e with e
        omega
    · rcases hat with hat | hat
      · exact (hd g hb).1 (hat ▸ e)
      · have := (hx.lt g hb).2
        rw [hat] at e
        injection e with e
        omega
theorem OwnT.rd (h : OwnT w base T E v us ts) : ∃ A cap, v = .slice A ts.length cap ∧ RdSl 2 RTi w A ts.length ts := by
  have hz : ((ts.map Ti.name).zip us).length = us.length := by simp [h.len]
  obtain ⟨A, cap, hv, hc⟩ := rd_of_flat encNU_len (by rw [hz]; exact h.outer)
  rw [hz, h.len] at hv hc
  refine ⟨A, cap, hv, rfl, fun hp => ?_⟩
  obtain ⟨g, hA, _, hg, hc⟩ := hc hp
  refine ⟨g, 0, hA, hg, fun k hk => ?_⟩
  have hku : k < us.length := by rw [h.len]; exact hk
  have hzk : ((ts.map Ti.name).zip us)[k]? = some (ts[k].name, us[k]) := by
    rw [List.getElem?_eq_getElem (by rw [hz]; exact hku)]
    simp [List.getElem_zip]
  have h0 := hc k _ hzk 0 _ rfl
  have h1 := hc k _ hzk 1 _ rfl
  obtain ⟨A2, c2, hu, hr⟩ := rdI_of_flat (h.inner k _ _ (List.getElem?_eq_getElem hku) (List.getElem?_eq_getElem hk))
  rw [Nat.zero_add]
  refine ⟨h0, A2, _, c2, ?_, hr⟩
  rw [← hu]; exact h1
end
section
variable {P : Program} {ops : Array Oper}
theorem wpD_append_atN {o : Oper} {rest : List (Oper × Tag)} {a : Act} {w : World} {Q : Act → World → Prop} (hgd : o.guard = none) (s x : Operand) (t : TypeId)
    (ho : o.op = .call { callee := .builtin .append, args := #[s, x], argTypes := #[t, t] })
    (base : Nat) (e : TypeId) (i : TypeInfo) (z : Value) (size bytes : Nat) (ht : P.underlying t = some (.slice e)) (hi : P.info? e = some i) (hz : i.zero = some z)
    (hsize : i.size = size) (hby : i.bytes = bytes) (hzs : z.cells.size = size) (hsz : 0 < size)
    (v : Value) (n : Nat) (xs : List Value) (hs : a.eval s = v) (hown : w.ownsRow base e size v n xs)
    (ad : Addr) (m c : Nat) (news : List Value) (hx : a.eval x = .slice (some ad) m c) (hl : news.length = m * size) (hnews : ∀ j u, news[j]? = some u → w.cell? (ad.add j) = some u) (h1 : ∀ u ∈ news, u.oneCell' = true)
    (h63 : n + m ≤ maxLen) (hbytes : (n + m) * bytes ≤ 140737488355328) (hbase : base ≤ w.heap.size)
    (h : ∀ v' w', w'.ownsRow base e size v' (n + m) (xs ++ news) → w.grownBy w' v.ownBlock → (v'.ownBlock = v.ownBlock ∨ v'.ownBlock = some w.heap.size) → wpD P ops Q rest (a.put o.dst v') w') : wpD P ops Q ((o, .b) :: rest) a w := by
  refine wpD_b fun K hK => ?_
  have hw : Region.wanted o (yielded ops a.tmps) = true := by simp [Region.wanted, hgd]
  rw [if_pos hw]
  obtain ⟨v', w', hrun, h2, h3, _, h4⟩ := run_append_own_at (P := P) w base t o.type e i z size bytes ht hi hz hsize hby hzs hsz v n xs hown ad m c news hl hnews h1 h63 hbytes hbase
  unfold execOp
  simp only [ho, resolve, invoke, builtin, Sem.run_bind, Sem.run_pure, Result.andThen_ok, List.map_toArray, List.map_cons, List.map_nil, hs, hx, hrun]
  exact hK _ _ (h v' w' h2 h3 h4)
end
theorem cell_two_newN (w : World) (a b : Value) (t : TypeId) : ∀ j u, [a, b][j]? = some u → (w.alloc (Obj.cells #[a, b] t)).cell? ((⟨w.heap.size, 0, none⟩ : Addr).add j) = some u := by
  intro j u hj
  match j, hj with
  | 0, hj => simp at hj; subst hj; simp [Addr.add]
  | 1, hj => simp at hj; subst hj; simp [Addr.add]
  | j + 2, hj => simp at hj
end Go.Proofs.YtpnahobgmemdjaaGreatDoor
/- Rows of one type lie in no block of another type. -/


namespace Go.Proofs.YtpnahobgmemdjaaGreatDoor
theorem own_ne_row {w : World} {base : Nat} {e T : TypeId} {size : Nat} {v : Value} {n : Nat} {xs : List Value} {g N : Nat} {f : Nat → Value} (h : w.ownsRow base e size v n xs) (hr : w.rowIs g T N f) (hne : e ≠ T) : v.ownBlock ≠ some g := by
  rcases h.2 with ⟨rfl, _⟩ | ⟨g', cap, cur, rfl, _, hh, _⟩
  · intro hc
    cases hc
  · intro hc
    have hg : some g' = some g := hc
    injection hg with hg
    subst hg
    obtain ⟨cur', hh', _⟩ := hr
    have := Option.some.inj (hh.symm.trans hh')
    injection this with _ h3
    exact hne h3
theorem mkRow_hi {w : World} {base size n c hi : Nat} {e : TypeId} {A : Option Addr} {xs : List Value} (h : w.ownsRow base e size (.slice A n c) n xs) (hh : ∀ g, (Value.slice A n c).ownBlock = some g → g < hi) : MkRow e size base hi w A n := fun hn => by
  obtain ⟨g, N, f, h1, h2, _, h4, h5⟩ := mkRow_of_owns h hn
  exact ⟨g, N, f, h1, h2, hh g (by subst h1; rfl), h4, h5⟩
end Go.Proofs.YtpnahobgmemdjaaGreatDoor
/- Words on rows of placed tiles; such a row copied. -/




namespace Go.Proofs.YtpnahobgmemdjaaGreatDoor
open Go.RowKit Go.Shelf
attribute [local go_sem] BelowBy.cell BelowBy.cell_drew stillUpon givesUpon BelowBy.cell_drew2 BelowBy.cell_drew3

def plCells : List Pl → List Value
  | [] => []
  | b :: l => .int .i64 b.x :: .int .i64 b.y :: .int .i64 b.t :: plCells l
theorem plCells_len (l : List Pl) : (plCells l).length = l.length * 3 := by
  induction l with
  | nil => rfl
  | cons b l ih => simp only [plCells, List.length_cons, ih]; omega
theorem plCells_snoc (l : List Pl) (b : Pl) : plCells (l ++ [b]) = plCells l ++ [.int .i64 b.x, .int .i64 b.y, .int .i64 b.t] := by
  induction l with
  | nil => rfl
  | cons a l ih => simp [plCells, ih]
theorem plCells_one (bs : List Pl) : ∀ u ∈ plCells bs, u.oneCell' = true := by
  induction bs with
  | nil => simp [plCells]
  | cons b l ih =>
    intro u hu
    simp only [plCells, List.mem_cons] at hu
    rcases hu with rfl | rfl | rfl | hu
    · rfl
    · rfl
    · rfl
    · exact ih u hu
theorem plCells_get : ∀ (bs : List Pl) (k : Nat) (e : Pl), bs[k]? = some e → (plCells bs)[k * 3]? = some (.int .i64 e.x) ∧ (plCells bs)[k * 3 + 1]? = some (.int .i64 e.y) ∧ (plCells bs)[k * 3 + 2]? = some (.int .i64 e.t)
  | [], k, e, h => by simp at h
  | b :: bs, 0, e, h => by
    simp at h
    subst h
    simp [plCells]
  | b :: bs, k + 1, e, h => by
    have := plCells_get bs k e (by simpa using h)
    have h3 : (k + 1) * 3 = k * 3 + 1 + 1 + 1 := by omega
    rw [h3]
    simpa [plCells, Nat.add_assoc] using this
theorem plCells_set : ∀ (bs : List Pl) (k : Nat) (e : Pl) (x y : Int), bs[k]? = some e → ((plCells bs).set (k * 3) (.int .i64 x)).set (k * 3 + 1) (.int .i64 y) = plCells (bs.set k ⟨x, y, e.t⟩)
  | [], k, e, x, y, h => by simp at h
  | b :: bs, 0, e, x, y, h => by
    simp at h
    subst h
    simp [plCells]
  | b :: bs, k + 1, e, x, y, h => by
    have := plCells_set bs k e x y (by simpa using h)
    have h3 : (k + 1) * 3 = k * 3 + 1 + 1 + 1 := by omega
    rw [h3]
    simpa [plCells, Nat.add_assoc] using this
theorem plCells_of_rd {w : World} {b o : Nat} {xs : List Pl} (h : ∀ k e, xs[k]? = some e → RPl w b (o + k * 3) e) : ∀ j u, (plCells xs)[j]? = some u → w.cell? ((⟨b, o, none⟩ : Addr).add j) = some u := by
  intro j u hj
  have hlt := (List.getElem?_eq_some_iff.1 hj).1
  rw [plCells_len] at hlt
  obtain ⟨k, hk⟩ : ∃ k, j / 3 = k := ⟨_, rfl⟩
  obtain ⟨e, he⟩ : ∃ e, xs[k]? = some e := ⟨_, List.getElem?_eq_getElem (by omega)⟩
  obtain ⟨g0, g1, g2⟩ := plCells_get xs _ e he
  obtain ⟨c0, c1, c2⟩ := h _ e he
  rw [Addr.add_lit]
  have : j = k * 3 ∨ j = k * 3 + 1 ∨ j = k * 3 + 2 := by omega
  rcases this with rfl | rfl | rfl
  · rw [← Option.some.inj (g0.symm.trans hj)]; exact c0
  · rw [← Option.some.inj (g1.symm.trans hj), ← Nat.add_assoc]; exact c1
  · rw [← Option.some.inj (g2.symm.trans hj), ← Nat.add_assoc]; exact c2
theorem rdP_of_row {W : World} {base : Nat} {T : TypeId} {v : Value} {bs : List Pl} (h : W.ownsRow base T 3 v bs.length (plCells bs)) : ∃ A cap, v = .slice A bs.length cap ∧ RdSl 3 RPl W A bs.length bs := by
  rcases h.2 with ⟨rfl, h0⟩ | ⟨g, cap, cur, rfl, hb, hh, hn, hm, hs, ht⟩
  · exact ⟨none, 0, by rw [h0], rfl, fun hp => by omega⟩
  · refine ⟨_, cap, rfl, rfl, fun hp => ⟨g, 0, rfl, (Array.getElem?_eq_some_iff.1 hh).1, fun k hk => ?_⟩⟩
    have hg := plCells_get bs k _ (List.getElem?_eq_getElem hk)
    rw [← ht] at hg
    have hcell : ∀ j u, (cur.toList.take (bs.length * 3))[j]? = some u → W.cell? ⟨g, j, none⟩ = some u := fun j u hj => by
      rw [List.getElem?_take] at hj
      split at hj
      · simp only [World.cell?, hh]
        simpa using hj
      · cases hj
    rw [Nat.zero_add]
    exact ⟨hcell _ _ hg.1, hcell _ _ hg.2.1, hcell _ _ hg.2.2⟩
def OwnPl (w : World) (bs : List Pl) (e : Ending) (w' : World) : Prop := ∃ v, e = .returned v ∧ w'.ownsRow w.heap.size 67 3 v bs.length (plCells bs) ∧ Below w.heap.size w w'
set_option maxRecDepth 100000 in
set_option maxHeartbeats 1000000 in
theorem CloneP_any (A : Option Addr) (n c : Nat) (bs : List Pl) (w : World) (h : RdSl 3 RPl w A n bs) (hn : n ≤ 100000) :
    Calls Tryz.prog 54 #[.slice A n c] w (OwnPl w bs) := by
  obtain ⟨i0, hi, hz0, hz1, hz2⟩ := info_parts infoPl
  have hl := h.len
  have hq := fun W => Lib.run_eql_slice_nil (P := Tryz.prog) W 26 67 A n c 0 0 Tryz.underlying26
  cases A with
  | none =>
    have h0 : n = 0 := by
      rcases Nat.eq_zero_or_pos n with h0 | h0
      · exact h0
      · obtain ⟨b, o, e, _⟩ := h.cells h0; cases e
    subst h0
    have hb : bs = [] := List.eq_nil_of_length_eq_zero hl
    subst hb
    clear h
    go_enter Tryz.func54, Tryz.ntmps54
    go_wp2
    go_ret
    exact ⟨_, rfl, World.ownsRow_nil _ _ _ _, bl_refl _⟩
  | some ad =>
    have hcl : (∀ (ob : Obj) j u, (plCells bs)[j]? = some u → (w.alloc ob).cell? (ad.add j) = some u) := fun ob j u hj => by
      have hlt := (List.getElem?_eq_some_iff.1 hj).1
      rw [plCells_len] at hlt
      obtain ⟨b, o, e, hb, hc⟩ := h.ptr (by omega)
      injection e with e
      subst e
      refine Eq.trans (World.cell?_alloc_lt _ _ _ ?_) (plCells_of_rd hc j u hj)
      rw [Addr.add_lit]; exact hb
    have hclH := Lib.hid hcl
    have hlH := Lib.hid hl
    have hlen := plCells_len bs
    rw [hl] at hlen
    have hlenH := Lib.hid hlen
    clear h hl hcl hlen
    go_enter Tryz.func54, Tryz.ntmps54
    go_wp2_with (at_builtin; go_loud (refine wpList_append_own _ rfl _ _ 26 rfl w.heap.size 67 i0 (.agg #[.int .i64 0, .int .i64 0, .int .i64 0]) 3 24 Tryz.underlying26 hi hz0 hz1 hz2 rfl (by decide) _ 0 [] rfl (World.ownsRow_made _ _ _ (Nat.le_refl _) (by decide) rfl) ad n c (plCells bs) rfl hlenH.out (fun j u hj => hclH.out _ j u hj) (plCells_one bs) (by unfold maxLen; omega) (by omega) (by simp) ?_); intro v' w3 hown' hgrow _)
    go_ret
    refine ⟨_, rfl, ?_, ((Below.refl w.heap.size w).alloc (Nat.le_refl _) _).grown hgrow (by simp) (fun b' hb' => ?_)⟩
    · rw [hlH.out]
      simpa using hown'
    · have hb2 : some w.heap.size = some b' := hb'
      injection hb2 with hb3
      exact Nat.le_of_eq hb3
end Go.Proofs.YtpnahobgmemdjaaGreatDoor
/- Walks: the harness' marks on a result that is an assembly, and what 'held' says of it. -/



namespace Go.Proofs.YtpnahobgmemdjaaGreatDoor
open Go.RowKit
attribute [local go_sem] BelowBy.cell BelowBy.cell_drew stillUpon givesUpon

set_option maxRecDepth 100000 in
set_option maxHeartbeats 2000000 in
theorem heldPlacedS_any (A : Option Addr) (n c k lo hi : Nat) (w : World) (h : Marked 67 3 lo hi w A n k) (hk : k + 3 * n ≤ 4611686018427387904) :
    Calls Tryz.prog 47 #[.slice A n c, .int .i64 (k : Int)] w fun e w' => e = .returned (.int .i64 ((k + 3 * n : Nat) : Int)) ∧ w = w' := by
  go_enter Tryz.func47, Tryz.ntmps47
  go_wp2
  go_loopg [5, 1] n (fun r x kk wr => ∃ i : Nat, i + r = n ∧ x = .int .i64 (i : Int) ∧ kk = .int .i64 ((k + 3 * i : Nat) : Int) ∧ w = wr)
  case atStart => exact ⟨0, by omega, rfl, rfl, rfl⟩
  case round =>
    obtain ⟨i, hi', rfl, rfl, rfl⟩ := hrel
    by_cases hlt : i < n
    · obtain ⟨j0, hj⟩ : ∃ j0, j0 = k + 3 * i := ⟨_, rfl⟩
      have hki : (0 : Int) ≤ (j0 : Int) := by omega
      have hki2 : (j0 : Int) + 3 < 4611686018427387910 := by omega
      have hjH := Lib.hid hj
      rw [← hj]
      obtain ⟨g, N, f, rfl, hg1, hg2, hrow, hN, hcont⟩ := h (by omega)
      have hc0 := hrow.cell (i := i * 3) (by omega)
      rw [hcont (i * 3) (by omega), show ((k + (i * 3) : Nat) : Int) = (j0 : Int) by omega] at hc0
      have hc1 := hrow.cell (i := i * 3 + 1) (by omega)
      rw [hcont (i * 3 + 1) (by omega), show ((k + (i * 3 + 1) : Nat) : Int) = (j0 : Int) + 1 by omega] at hc1
      have hc2 := hrow.cell (i := i * 3 + 2) (by omega)
      rw [hcont (i * 3 + 2) (by omega), show ((k + (i * 3 + 2) : Nat) : Int) = (j0 : Int) + 1 + 1 by omega] at hc2
      clear hj hrow hcont h
      go_wp2
      go_roundg (n - (i + 1))
      case measure => omega
      case rel => exact ⟨i + 1, by omega, by go_num, by (have := hjH.out; rw [show k + 3 * (i + 1) = j0 + 1 + 1 + 1 by omega]; go_num), rfl⟩
    · obtain rfl : i = n := by omega
      go_wp2
      go_ret
      exact ⟨rfl, rfl⟩
theorem rdPl {W : World} {base : Nat} {A : Option Addr} {n c : Nat} {bs : List Pl} (h : W.ownsRow base 67 3 (.slice A n c) n (plCells bs)) (hn : n = bs.length := by rfl) : RdSl 3 RPl W A n bs := by
  subst hn
  obtain ⟨A', cap, e, h'⟩ := rdP_of_row h
  injection e with e1 e2 e3
  subst e1
  exact h'
theorem markAssembly_c (A : Option Addr) (n c k lo hi : Nat) (w : World) (h : MkRow 67 3 lo hi w A n) (hh : hi ≤ w.heap.size) (hl : lo ≤ w.heap.size) (hk : k + 3 * n ≤ 4611686018427387904) :
    Calls Tryz.prog 22 #[.agg #[.slice A n c], .int .i64 (k : Int)] w (MkResC 67 3 lo hi A n k w (k + 3 * n)) := by
  have ha : Below w.heap.size w (w.alloc (.cells #[.slice A n c] 28)) := bl_al (bl_refl _) _
  have haH := Lib.hid ha
  have h' := Lib.hid (h.below ha hh)
  clear h ha
  go_enter Tryz.func22, Tryz.ntmps22
  go_wp2_with fail
  refine (markPlacedS_c A n c k lo hi _ h'.out (by simp; omega) (by simp; omega) hk).mono ?_
  rintro e w1 ⟨rfl, hm1, hc1⟩
  have hm1H := Lib.hid hm1
  have hc1H := Lib.hid hc1
  clear hm1 hc1
  go_wp2
  go_ret
  exact ⟨rfl, (Mk.of_below haH.out hl).trans hm1H.out, hc1H.out⟩
theorem heldAssembly_any (A : Option Addr) (n c k lo hi : Nat) (w : World) (h : Marked 67 3 lo hi w A n k) (hh : hi ≤ w.heap.size) (hk : k + 3 * n ≤ 4611686018427387904) :
    Calls Tryz.prog 24 #[.agg #[.slice A n c], .int .i64 (k : Int)] w fun e w' => e = .returned (.int .i64 ((k + 3 * n : Nat) : Int)) ∧ Below w.heap.size w w' := by
  have ha : Below w.heap.size w (w.alloc (.cells #[.slice A n c] 28)) := bl_al (bl_refl _) _
  have haH := Lib.hid ha
  have h' := Lib.hid (h.below ha hh)
  clear h ha
  go_enter Tryz.func24, Tryz.ntmps24
  go_wp2_with fail
  refine (heldPlacedS_any A n c k lo hi _ h'.out hk).mono ?_
  rintro e _ ⟨rfl, rfl⟩
  have hk0 : (0 : Int) ≤ ((k + 3 * n : Nat) : Int) := by omega
  go_wp2
  go_ret
  exact ⟨rfl, haH.out⟩
/-- an assembly and a code -/
def AsmRes (w : World) (r : List Pl × Int) (e : Ending) (w' : World) : Prop :=
  ∃ A c, e = .returned (.tuple #[.agg #[.slice A r.1.length c], .int .i64 r.2]) ∧ w'.ownsRow w.heap.size 67 3 (.slice A r.1.length c) r.1.length (plCells r.1) ∧ Below w.heap.size w w'
theorem AsmRes.of {w w' : World} {r : List Pl × Int} {bs : List Pl} {n : Nat} {c : Int} {A : Option Addr} {cap : Nat} (h : (bs, c) = r) (hn : n = bs.length) (hr : w'.ownsRow w.heap.size 67 3 (.slice A n cap) n (plCells bs)) (hb : Below w.heap.size w w') : AsmRes w r (.returned (.tuple #[.agg #[.slice A n cap], .int .i64 c])) w' := by
  subst h hn
  exact ⟨A, cap, rfl, hr, hb⟩
end Go.Proofs.YtpnahobgmemdjaaGreatDoor
