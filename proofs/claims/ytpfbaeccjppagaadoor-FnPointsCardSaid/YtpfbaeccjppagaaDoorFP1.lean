/- Walks: a source of numbers drawn from bytes. -/
import Derived.Test.YtpfbaeccjppagaaDoorBase2
import Derived.Test.YtpfbaeccjppagaaDoorOrdApp
import Derived.Test.YtpfbaeccjppagaaDoorOrdK
import Derived.Test.YtpfbaeccjppagaaDoorW1
namespace Go.Proofs.YtpfbaeccjppagaaDoor
open Go.RowKit
set_option linter.unusedSimpArgs false
set_option linter.unusedVariables false
attribute [local go_sem] BelowBy.cell BelowBy.cell_drew stillUpon givesUpon

/-- a byte -/
def RBy (w : World) (b o : Nat) (e : Nat) : Prop := w.cell? ⟨b, o, none⟩ = some (.int .u8 (e : Int)) ∧ e < 256
theorem RBy.stable : Stable RBy := fun _ _ b o _ h hb hw => ⟨(hw.cell (p := ⟨b, o, none⟩) hb).trans h.1, h.2⟩
/-- a source in a block: the bytes, how many were asked for, a number -/
structure Src (w : World) (p : Nat) (C : Option Addr) (n c : Nat) (bs : List Nat) (a : Nat) (s : Nat) : Prop where
  lt : p < w.heap.size
  c0 : w.cell? ⟨p, 0, none⟩ = some (.slice C n c)
  c1 : w.cell? ⟨p, 1, none⟩ = some (.int .i64 (a : Int))
  c2 : w.cell? ⟨p, 2, none⟩ = some (.int .u64 (s : Int))
  f1 : w.frozen? ⟨p, 1, none⟩ = false
  f2 : w.frozen? ⟨p, 2, none⟩ = false
  rd : 0 < n → ∀ b o, C = some ⟨b, o, none⟩ → b < p
  bs : RdSl 1 RBy w C n bs
theorem Src.below {w w' : World} {p n c a s : Nat} {C : Option Addr} {bs : List Nat} (h : Src w p C n c bs a s) (hb : Below w.heap.size w w') : Src w' p C n c bs a s :=
  ⟨Nat.lt_of_lt_of_le h.lt hb.size, (hb.cell (p := ⟨p, 0, none⟩) h.lt).trans h.c0, (hb.cell (p := ⟨p, 1, none⟩) h.lt).trans h.c1, (hb.cell (p := ⟨p, 2, none⟩) h.lt).trans h.c2, (hb.frozen (p := ⟨p, 1, none⟩) h.lt).trans h.f1, (hb.frozen (p := ⟨p, 2, none⟩) h.lt).trans h.f2, h.rd, h.bs.below RBy.stable hb⟩
/-- a source's next number and its new state, in the world that two stores leave -/
theorem Src.stored {w : World} {p n c a s a' s' : Nat} {C : Option Addr} {bs : List Nat} (h : Src w p C n c bs a s) : Src ((w.setCell ⟨p, 1, none⟩ (.int .i64 (a' : Int))).setCell ⟨p, 2, none⟩ (.int .u64 (s' : Int))) p C n c bs a' s' := by
  obtain ⟨h1, h2, h3, h4, h5, h6, h7, h8⟩ := h
  have hb : Below p w ((w.setCell ⟨p, 1, none⟩ (.int .i64 (a' : Int))).setCell ⟨p, 2, none⟩ (.int .u64 (s' : Int))) := ((Below.refl p w).setCell (p := ⟨p, 1, none⟩) (Nat.le_refl _) _).setCell (p := ⟨p, 2, none⟩) (Nat.le_refl _) _
  refine ⟨by simpa using h1, by go_simp, by go_simp, by go_simp, by go_simp, by go_simp, h7, h8.len, fun hp => ?_⟩
  obtain ⟨b, o, hA, hbl, hc⟩ := h8.cells hp
  have hbp := h7 hp b o hA
  exact ⟨b, o, hA, Nat.lt_of_lt_of_le hbl hb.size, fun k hk => ⟨(hb.cell (p := ⟨b, _, none⟩) hbp).trans (hc k hk).1, (hc k hk).2⟩⟩
theorem Src.belowB {B : Nat} {w w' : World} {p n c a s : Nat} {C : Option Addr} {bs : List Nat} (h : Src w p C n c bs a s) (hp : p < B) (hb : Below B w w') : Src w' p C n c bs a s :=
  ⟨Nat.lt_of_lt_of_le h.lt hb.size, (hb.cell (p := ⟨p, 0, none⟩) hp).trans h.c0, (hb.cell (p := ⟨p, 1, none⟩) hp).trans h.c1, (hb.cell (p := ⟨p, 2, none⟩) hp).trans h.c2, (hb.frozen (p := ⟨p, 1, none⟩) hp).trans h.f1, (hb.frozen (p := ⟨p, 2, none⟩) hp).trans h.f2, h.rd, h.bs.len, fun hn => by
    obtain ⟨b, o, hA, hbl, hc⟩ := h.bs.cells hn
    have hbp := h.rd hn b o hA
    exact ⟨b, o, hA, Nat.lt_of_lt_of_le hbl hb.size, fun k hk => ⟨(hb.cell (p := ⟨b, _, none⟩) (Nat.lt_trans hbp hp)).trans (hc k hk).1, (hc k hk).2⟩⟩⟩
end Go.Proofs.YtpfbaeccjppagaaDoor
