/- Walks: the reference's functions on sets. -/
import Derived.Test.YtpnahobgmemdjaaGreatDoorW4
import Derived.Lib.SlicesS
namespace Go.Proofs.YtpnahobgmemdjaaGreatDoor
open Go.RowKit
set_option linter.unusedSimpArgs false
set_option linter.unusedVariables false
attribute [local go_sem] BelowBy.cell BelowBy.cell_drew stillUpon givesUpon
/-- A tile set lies in block p. -/
structure SetAt (w : World) (p op : Nat) (gs : List Gl) (ts : List Ti) : Prop where
  lt : p < w.heap.size
  gl : ∃ A n c, w.cell? ⟨p, op, none⟩ = some (.slice A n c) ∧ RdSl 2 RGl w A n gs
  ti : ∃ A n c, w.cell? ⟨p, op + 1, none⟩ = some (.slice A n c) ∧ RdSl 2 RTi w A n ts
theorem SetAt.below {op : Nat} {w w' : World} {p : Nat} {gs : List Gl} {ts : List Ti} (h : SetAt w p op gs ts) (hb : Below w.heap.size w w') : SetAt w' p op gs ts := by
  obtain ⟨A, n, c, h1, h2⟩ := h.gl
  obtain ⟨B, m, d, h3, h4⟩ := h.ti
  exact ⟨Nat.lt_of_lt_of_le h.lt hb.size, ⟨A, n, c, (hb.cell (p := ⟨p, op, none⟩) h.lt).trans h1, h2.below RGl.stable hb⟩, ⟨B, m, d, (hb.cell (p := ⟨p, op + 1, none⟩) h.lt).trans h3, h4.below RTi.stable hb⟩⟩
/-- no earlier glue has the name of glue j -/
def freshG (gs : List Gl) (j : Nat) : Bool := match gs[j]? with
  | none => true
  | some g => allB j (fun i => match gs[i]? with | none => true | some e => decide (e.name ≠ g.name))
def freshT (ts : List Ti) (j : Nat) : Bool := match ts[j]? with
  | none => true
  | some g => allB j (fun i => match ts[i]? with | none => true | some e => decide (e.name ≠ g.name))
theorem freshG_true {gs : List Gl} {j : Nat} {g : Gl} (hj : gs[j]? = some g) (h : ∀ i, i < j → ∀ e, gs[i]? = some e → e.name ≠ g.name) : freshG gs j = true := by
  unfold freshG; rw [hj]
  exact allB_true fun i hi => by
    cases he : gs[i]? with
    | none => simp [he]
    | some e => simpa [he] using h i hi e he
theorem freshG_false {gs : List Gl} {i j : Nat} {g e : Gl} (hj : gs[j]? = some g) (hi : i < j) (he : gs[i]? = some e) (h : e.name = g.name) : freshG gs j = false := by
  unfold freshG; rw [hj]
  exact allB_false hi (by simp [he, h])
theorem freshT_true {ts : List Ti} {j : Nat} {g : Ti} (hj : ts[j]? = some g) (h : ∀ i, i < j → ∀ e, ts[i]? = some e → e.name ≠ g.name) : freshT ts j = true := by
  unfold freshT; rw [hj]
  exact allB_true fun i hi => by
    cases he : ts[i]? with
    | none => simp [he]
    | some e => simpa [he] using h i hi e he
theorem freshT_false {ts : List Ti} {i j : Nat} {g e : Ti} (hj : ts[j]? = some g) (hi : i < j) (he : ts[i]? = some e) (h : e.name = g.name) : freshT ts j = false := by
  unfold freshT; rw [hj]
  exact allB_false hi (by simp [he, h])
theorem l02Glue_any {op : Nat} (p : Nat) (gs : List Gl) (ts : List Ti) (i : Nat) (g : Gl) (w : World) (h : SetAt w p op gs ts) (hm : gs.length ≤ 281474976710656) (hi : gs[i]? = some g) :
    Calls Tryz.prog 48 #[.pointer (some ⟨p, op, none⟩), .string g.name] w fun e w' => (∃ r : Int, e = .returned (.int .i64 r) ∧ (r == (i : Int) + 1) = freshG gs i) ∧ w = w' := by
  obtain ⟨hlt, ⟨A, n, c, h1, h2⟩, ⟨B, m, d, h3, h4⟩⟩ := h
  have hl := h2.len
  have hil : i < n := by
    obtain ⟨h, _⟩ := List.getElem?_eq_some_iff.1 hi
    omega
  obtain ⟨b, o, rfl, hbl, hc⟩ := h2.ptr (by omega)
  have hc := Lib.hid hc
  have hi := Lib.hid hi
  clear h3 h4 h2
  go_enter Tryz.func48, Tryz.ntmps48
  go_wp2
  go_loopg [5] n (fun r x wr => ∃ k : Nat, k + r = n ∧ x = .int .i64 k ∧ k ≤ i ∧ (∀ j, j < k → ∀ e, gs[j]? = some e → e.name ≠ g.name) ∧ w = wr)
  case atStart => exact ⟨0, by omega, rfl, by omega, fun j hj => by omega, rfl⟩
  case round =>
    obtain ⟨k, hk, rfl, hki, hok, rfl⟩ := hrel
    have hok := Lib.hid hok
    obtain ⟨e, he⟩ : ∃ e, gs[k]? = some e := ⟨_, List.getElem?_eq_getElem (by omega)⟩
    obtain ⟨c0, c1⟩ := hc.out k e he
    have he := Lib.hid he
    have hkn : k < n := by omega
    by_cases hn : e.name = g.name
    · have hn' : decide (e.name = g.name) = true := decide_eq_true hn
      have hn'' : (e.name.toList == g.name.toList) = true := (Lib.bytes_beq_iff _ _).2 hn
      have hn := Lib.hid hn
      go_wp2
      go_ret
      refine ⟨⟨_, rfl, ?_⟩, rfl⟩
      by_cases hkk : k = i
      · subst hkk
        rw [freshG_true hi.out hok.out]; simp
      · rw [freshG_false hi.out (by omega) he.out hn.out, beq_eq_false_iff_ne]; omega
    · have hn' : decide (e.name = g.name) = false := decide_eq_false hn
      have hn'' : (e.name.toList == g.name.toList) = false := (Lib.bytes_beq_false_iff _ _).2 hn
      have hn := Lib.hid hn
      go_wp2
      go_roundg (n - (k + 1))
      case measure => omega
      case rel => exact ⟨k + 1, by omega, by go_num, (by
          rcases Nat.lt_or_ge k i with h | h
          · omega
          · obtain rfl : k = i := by omega
            exact absurd (by rw [Option.some.inj (he.out.symm.trans hi.out)]) hn.out), fun j hj => (by
          rcases Nat.lt_succ_iff_lt_or_eq.1 hj with hj | rfl
          · exact hok.out j hj
          · intro e' he'
            rw [← Option.some.inj (he.out.symm.trans he')]
            exact hn.out), rfl⟩
theorem l02Tile_any {op : Nat} (p : Nat) (gs : List Gl) (ts : List Ti) (i : Nat) (g : Ti) (w : World) (h : SetAt w p op gs ts) (hm : ts.length ≤ 281474976710656) (hi : ts[i]? = some g) :
    Calls Tryz.prog 50 #[.pointer (some ⟨p, op, none⟩), .string g.name] w fun e w' => (∃ r : Int, e = .returned (.int .i64 r) ∧ (r == (i : Int)) = freshT ts i) ∧ w = w' := by
  obtain ⟨hlt, ⟨A, n, c, h1, h2⟩, ⟨B, m, d, h3, h4⟩⟩ := h
  have hl := h4.len
  have hil : i < m := by
    obtain ⟨h, _⟩ := List.getElem?_eq_some_iff.1 hi
    omega
  obtain ⟨b, o, rfl, hbl, hc⟩ := h4.ptr (by omega)
  have hc := Lib.hid hc
  have hi := Lib.hid hi
  clear h1 h2 h4
  go_enter Tryz.func50, Tryz.ntmps50
  go_wp2
  go_loopg [5] m (fun r x wr => ∃ k : Nat, k + r = m ∧ x = .int .i64 k ∧ k ≤ i ∧ (∀ j, j < k → ∀ e, ts[j]? = some e → e.name ≠ g.name) ∧ w = wr)
  case atStart => exact ⟨0, by omega, rfl, by omega, fun j hj => by omega, rfl⟩
  case round =>
    obtain ⟨k, hk, rfl, hki, hok, rfl⟩ := hrel
    have hok := Lib.hid hok
    obtain ⟨e, he⟩ : ∃ e, ts[k]? = some e := ⟨_, List.getElem?_eq_getElem (by omega)⟩
    obtain ⟨c0, -⟩ := hc.out k e he
    have he := Lib.hid he
    have hkn : k < m := by omega
    by_cases hn : e.name = g.name
    · have hn' : decide (e.name = g.name) = true := decide_eq_true hn
      have hn'' : (e.name.toList == g.name.toList) = true := (Lib.bytes_beq_iff _ _).2 hn
      have hn := Lib.hid hn
      go_wp2
      go_ret
      refine ⟨⟨_, rfl, ?_⟩, rfl⟩
      by_cases hkk : k = i
      · subst hkk
        rw [freshT_true hi.out hok.out]; simp
      · rw [freshT_false hi.out (by omega) he.out hn.out, beq_eq_false_iff_ne]; omega
    · have hn' : decide (e.name = g.name) = false := decide_eq_false hn
      have hn'' : (e.name.toList == g.name.toList) = false := (Lib.bytes_beq_false_iff _ _).2 hn
      have hn := Lib.hid hn
      go_wp2
      go_roundg (m - (k + 1))
      case measure => omega
      case rel => exact ⟨k + 1, by omega, by go_num, (by
          rcases Nat.lt_or_ge k i with h | h
          · omega
          · obtain rfl : k = i := by omega
            exact absurd (by rw [Option.some.inj (he.out.symm.trans hi.out)]) hn.out), fun j hj => (by
          rcases Nat.lt_succ_iff_lt_or_eq.1 hj with hj | rfl
          · exact hok.out j hj
          · intro e' he'
            rw [← Option.some.inj (he.out.symm.trans he')]
            exact hn.out), rfl⟩
def okGl (gs : List Gl) (j : Nat) : Bool := match gs[j]? with
  | none => true
  | some g => isNameB g.name && (inB g.s 1 4 && freshG gs j)
def okSide (n : Nat) (xs : List Int) (j : Nat) : Bool := match xs[j]? with
  | none => true
  | some x => inB x 0 n
def okTi (n : Nat) (ts : List Ti) (j : Nat) : Bool := match ts[j]? with
  | none => true
  | some t => isNameB t.name && (decide (t.sides.length = 4) && (freshT ts j && allB t.sides.length (okSide n t.sides)))
def validSetB (gs : List Gl) (ts : List Ti) : Bool := (decide (gs.length ≤ 200) && (decide (1 ≤ ts.length) && decide (ts.length ≤ 160))) && (allB gs.length (okGl gs) && allB ts.length (okTi gs.length ts))
end Go.Proofs.YtpnahobgmemdjaaGreatDoor
