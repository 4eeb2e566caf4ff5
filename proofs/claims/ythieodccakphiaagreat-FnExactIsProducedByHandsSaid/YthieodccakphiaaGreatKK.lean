import Derived.Test.YthieodccakphiaaGreatV1
import Derived.Test.YthieodccakphiaaGreatKJ
import Derived.Test.YthieodccakphiaaGreatIRes
import Derived.Test.YthieodccakphiaaGreatKI
set_option linter.unusedSimpArgs false
set_option linter.unusedVariables false
/- Walks: what a pair of hands asks of a set, a temperature and assemblies. -/

namespace Go.Proofs.YthieodccakphiaaGreat
open Go.RowKit Go.Shelf
attribute [local go_sem] BelowBy.cell BelowBy.cell_drew stillUpon givesUpon BelowBy.cell_drew2 BelowBy.cell_drew3

/-- a set is read -/
structure TS (w : World) (G : Option Addr) (n : Nat) (T : Option Addr) (m : Nat) (gs : List Gl) (ts : List Ti) : Prop where
  G : RdSl 2 RGl w G n gs
  T : RdSl 2 RTi w T m ts
  gm : n ≤ 1073741824
  tm : m ≤ 1073741824
  gn : ∀ (k : Nat) (e : Gl), gs[k]? = some e → e.name.size ≤ 9223372036854775807
  tn : ∀ (k : Nat) (e : Ti), ts[k]? = some e → e.name.size ≤ 9223372036854775807 ∧ e.sides.length ≤ 9223372036854775807
section
variable {w w' : World} {G T A : Option Addr} {n cg m ct q ca : Nat} {gs : List Gl} {ts : List Ti} {xs : List Pl}
theorem TS.below (h : TS w G n T m gs ts) (hb : Below w.heap.size w w') : TS w' G n T m gs ts :=
  ⟨h.G.below RGl.stable hb, h.T.below RTi.stable hb, h.gm, h.tm, h.gn, h.tn⟩
theorem TS.sa (h : TS w G n T m gs ts) (hA : RdSl 3 RPl w A q xs) (hq : q ≤ 1073741824) : SA w G n T m A q gs ts xs := ⟨h.G, h.T, hA, h.gm, h.tm, hq, h.gn, h.tn⟩
theorem SA.toTS (h : SA w G n T m A q gs ts xs) : TS w G n T m gs ts := ⟨h.G, h.T, h.gm, h.tm, h.gn, h.tn⟩
theorem TS.valid {v : Bool} (h : TS w G n T m gs ts) (hv : validSetB gs ts = v) :
    Calls Tryz.prog 57 #[.agg #[.slice G n cg, .slice T m ct]] w fun e w' => e = .returned (.bool v) ∧ Below w.heap.size w w' := by
  rw [← hv]; exact ValidSet_any _ _ _ _ _ _ gs ts _ h.G h.T (Nat.le_trans h.gm (by decide)) (Nat.le_trans h.tm (by decide)) h.gn h.tn
end
/-- a block of assemblies -/
def LRow (w : World) (g : Nat) (Ls : List (List Pl)) : Prop := g < w.heap.size ∧ ∀ (k : Nat) (l : List Pl), Ls[k]? = some l → ∃ A q c, w.cell? ⟨g, k, none⟩ = some (.slice A q c) ∧ RdSl 3 RPl w A q l ∧ q ≤ 1073741824
theorem LRow.below {w w' : World} {g : Nat} {Ls : List (List Pl)} (h : LRow w g Ls) (hb : Below w.heap.size w w') : LRow w' g Ls := by
  refine ⟨Nat.lt_of_lt_of_le h.1 hb.size, fun k l hk => ?_⟩
  obtain ⟨A, q, c, h1, h2, h3⟩ := h.2 k l hk
  exact ⟨A, q, c, (hb.cell (p := ⟨g, k, none⟩) h.1).trans h1, h2.below RPl.stable hb, h3⟩
theorem isTempH_any (t : Int) (w : World) : Calls Tryz.prog 61 #[.int .i64 t] w fun e w' => e = .returned (.bool (inB t 1 16)) ∧ w = w' := by
  go_enter Tryz.func61, Tryz.ntmps61
  go_wp2_with (go_at_call 96; refine (within_any _ _ _ _).mono ?_; rintro e w' ⟨rfl, rfl⟩)
  go_ret
  exact ⟨ret_bool rfl, rfl⟩
theorem isTempH_at {t : Int} {v : Bool} {w : World} (h : inB t 1 16 = v) : Calls Tryz.prog 61 #[.int .i64 t] w fun e w' => e = .returned (.bool v) ∧ w = w' := by
  rw [← h]; exact isTempH_any t w
/-- the box of a pair of hands -/
structure HBox (w : World) (p : Nat) (G : Option Addr) (n : Nat) (T : Option Addr) (m : Nat) (gs : List Gl) (ts : List Ti) : Prop where
  lt : p < w.heap.size
  c0 : ∃ cg, w.cell? ⟨p, 0, none⟩ = some (.slice G n cg)
  c1 : ∃ ct, w.cell? ⟨p, 1, none⟩ = some (.slice T m ct)
  ts : TS w G n T m gs ts
theorem HBox.below {w w' : World} {p : Nat} {G T : Option Addr} {n m : Nat} {gs : List Gl} {ts : List Ti} (h : HBox w p G n T m gs ts) (hb : Below w.heap.size w w') : HBox w' p G n T m gs ts := by
  obtain ⟨cg, h0⟩ := h.c0
  obtain ⟨ct, h1⟩ := h.c1
  exact ⟨Nat.lt_of_lt_of_le h.lt hb.size, ⟨cg, (hb.cell (p := ⟨p, 0, none⟩) h.lt).trans h0⟩, ⟨ct, (hb.cell (p := ⟨p, 1, none⟩) h.lt).trans h1⟩, h.ts.below hb⟩
set_option maxRecDepth 100000 in
theorem handsCode1_at {p : Nat} {G T A : Option Addr} {n m q ca : Nat} {gs : List Gl} {ts : List Ti} {xs : List Pl} {v u : Bool} {w : World} (h : HBox w p G n T m gs ts) (hA : RdSl 3 RPl w A q xs) (hq : q ≤ 1073741824) (hv : validAsmB gs ts xs = v) (hu : (!v) = u) :
    Calls Tryz.prog 59 #[.agg #[.slice A q ca], .pointer (some ⟨p, 0, none⟩)] w fun e w' => e = .returned (.bool u) ∧ Below w.heap.size w w' := by
  subst hu
  obtain ⟨cg, h0⟩ := h.c0
  obtain ⟨ct, h1⟩ := h.c1
  have hp := h.lt
  have hS := Lib.hid (h.ts.sa hA hq)
  have hvH := Lib.hid hv
  clear h hA hv
  go_enter Tryz.func59, Tryz.ntmps59
  go_wp2_with (go_at_call 60; refine (SA.valid (hS.out.below (by exact bel_)) hvH.out).mono ?_; rintro e w1 ⟨rfl, hb1⟩; have hb1H := Lib.hid (show Below w.heap.size w w1 by exact bel_); clear hb1)
  go_ret
  exact ⟨rfl, hb1H.out⟩
def okL (gs : List Gl) (ts : List Ti) (Ls : List (List Pl)) (k : Nat) : Bool := match Ls[k]? with
  | some l => validAsmB gs ts l
  | none => true
theorem okL_eq {gs : List Gl} {ts : List Ti} {Ls : List (List Pl)} {k : Nat} {l : List Pl} (h : Ls[k]? = some l) : okL gs ts Ls k = validAsmB gs ts l := by unfold okL; rw [h]
set_option maxRecDepth 100000 in
set_option maxHeartbeats 1000000 in
theorem IndexFuncA_any {p g N c : Nat} {G T : Option Addr} {n m : Nat} {gs : List Gl} {ts : List Ti} {Ls : List (List Pl)} {w : World} (h : HBox w p G n T m gs ts) (hL : LRow w g Ls) (hN : N = Ls.length) (hn : N ≤ 1073741824) :
    Calls Tryz.prog 100 #[.slice (some ⟨g, 0, none⟩) N c, .func (.func 59) #[] #[.pointer (some ⟨p, 0, none⟩)]] w (FirstRes w N (okL gs ts Ls)) := by
  have hH := Lib.hid h
  have hLH := Lib.hid hL
  have hNH := Lib.hid hN
  clear h hL hN
  go_enter Tryz.func100, Tryz.ntmps100
  go_wp2
  go_loopg [8] N (fun r x wr => ∃ k : Nat, k + r = N ∧ x = .int .i64 k ∧ Hid (∀ j, j < k → okL gs ts Ls j = true) ∧ Hid (Below w.heap.size w wr))
  case atStart => exact ⟨0, by omega, rfl, Lib.hid (fun j hj => by omega), Lib.hid (by exact bel_)⟩
  case round =>
    obtain ⟨k, hk, rfl, hok, hbw⟩ := hrel
    by_cases hkn : k < N
    · obtain ⟨l, hl⟩ : ∃ l, Ls[k]? = some l := ⟨_, List.getElem?_eq_getElem (by have := hNH.out; omega)⟩
      obtain ⟨A, q, ca, a0, a1, a2⟩ := (hLH.out.below hbw.out).2 k l hl
      have hgw := (hLH.out.below hbw.out).1
      have hlH := Lib.hid hl
      have a1H := Lib.hid a1
      clear hl a1
      cases hv : validAsmB gs ts l
      all_goals
        have hvH := Lib.hid hv
        clear hv
        go_wp2_with (go_at_call 59; refine (handsCode1_at ((hH.out.below hbw.out).below (by exact bel_)) (a1H.out.below RPl.stable (by exact bel_)) a2 hvH.out rfl).mono ?_; rintro e w1 ⟨rfl, hb1⟩; have hb1H := Lib.hid (show Below wr.heap.size wr w1 by exact bel_); clear hb1)
      · go_ret
        exact ⟨_, rfl, by rw [allB_false hkn (by rw [okL_eq hlH.out]; exact hvH.out)]; simp, hbw.out.trans (hb1H.out.mono hbw.out.size)⟩
      · go_roundg (N - (k + 1))
        case measure => omega
        case rel => exact ⟨k + 1, by omega, by go_num, Lib.hid (fun j hj => by
            rcases Nat.lt_succ_iff_lt_or_eq.1 hj with hj | rfl
            · exact hok.out j hj
            · rw [okL_eq hlH.out]; exact hvH.out), Lib.hid (hbw.out.trans (hb1H.out.mono hbw.out.size))⟩
    · obtain rfl : k = N := by omega
      go_wp2
      go_ret
      exact ⟨_, rfl, by rw [allB_true hok.out]; simp, hbw.out⟩
set_option maxRecDepth 100000 in
set_option maxHeartbeats 1000000 in
theorem ContainsFuncA_at {p g N c : Nat} {G T : Option Addr} {n m : Nat} {gs : List Gl} {ts : List Ti} {Ls : List (List Pl)} {v u : Bool} {w : World} (h : HBox w p G n T m gs ts) (hL : LRow w g Ls) (hN : N = Ls.length) (hn : N ≤ 1073741824) (hv : allB N (okL gs ts Ls) = v) (hu : (!v) = u) :
    Calls Tryz.prog 58 #[.slice (some ⟨g, 0, none⟩) N c, .func (.func 59) #[] #[.pointer (some ⟨p, 0, none⟩)]] w fun e w' => e = .returned (.bool u) ∧ Below w.heap.size w w' := by
  subst hu
  subst hv
  have hH := Lib.hid h
  have hLH := Lib.hid hL
  have hNH := Lib.hid hN
  clear h hL hN
  go_enter Tryz.func58, Tryz.ntmps58
  go_wp2_with (go_at_call 100; refine (IndexFuncA_any (hH.out.below (by exact bel_)) (hLH.out.below (by exact bel_)) hNH.out hn).mono ?_; rintro e w1 ⟨r, rfl, hr, hb1⟩)
  go_ret
  refine ⟨rfl, ?_⟩
  exact bel_
def codeH (gs : List Gl) (ts : List Ti) (Ls : List (List Pl)) (t : Int) : Int :=
  if (validSetB gs ts && allB Ls.length (okL gs ts Ls)) = false then 1 else if inB t 1 16 = false then 2 else 0
set_option maxRecDepth 100000 in
set_option maxHeartbeats 1000000 in
theorem handsCode_any {g N c : Nat} {G T : Option Addr} {n cg m ct : Nat} {gs : List Gl} {ts : List Ti} {Ls : List (List Pl)} {t : Int} {w : World} (h : TS w G n T m gs ts) (hL : LRow w g Ls) (hN : N = Ls.length) (hn : N ≤ 1073741824) :
    Calls Tryz.prog 30 #[.agg #[.slice G n cg, .slice T m ct, .int .i64 t], .slice (some ⟨g, 0, none⟩) N c] w fun e w' => e = .returned (.int .i64 (codeH gs ts Ls t)) ∧ Below w.heap.size w w' := by
  have hB : Hid (HBox (w.alloc (Obj.cells #[.slice G n cg, .slice T m ct, .int .i64 t] 79)) w.heap.size G n T m gs ts) :=
    Lib.hid ⟨by simp, ⟨cg, by go_simp⟩, ⟨ct, by go_simp⟩, h.below (by exact bel_)⟩
  have hH := Lib.hid h
  have hNH := Lib.hid hN
  have hLH := Lib.hid (hL.below (show Below w.heap.size w (w.alloc (Obj.cells #[.slice G n cg, .slice T m ct, .int .i64 t] 79)) by exact bel_))
  clear h hL hN
  cases hs : validSetB gs ts
  · have hR := Lib.hid (show codeH gs ts Ls t = 1 from if_pos (by rw [hs]; rfl))
    have hsH := Lib.hid hs
    clear hs
    go_enter Tryz.func30, Tryz.ntmps30
    go_wp2_with (go_at_call 57; refine (TS.valid (hH.out.below (by exact bel_)) hsH.out).mono ?_; rintro e w1 ⟨rfl, hb1⟩; obtain ⟨chb1, fhb1, shb1, thb1⟩ := bcell hb1; have s1 := shb1 w.heap.size (by go_simp))
    go_ret
    exact ⟨ret_int hR.out.symm, by exact bel_⟩
  · cases ho : allB N (okL gs ts Ls)
    · have hR := Lib.hid (show codeH gs ts Ls t = 1 from if_pos (by rw [hs, ← hNH.out, ho]; rfl))
      have hsH := Lib.hid hs
      have hoH := Lib.hid ho
      clear hs ho
      go_enter Tryz.func30, Tryz.ntmps30
      go_wp2_with (first
        | (go_at_call 57; refine (TS.valid (hH.out.below (by exact bel_)) hsH.out).mono ?_; rintro e w1 ⟨rfl, hb1⟩; obtain ⟨chb1, fhb1, shb1, thb1⟩ := bcell hb1; have s1 := shb1 w.heap.size (by go_simp))
        | (go_at_call 58; refine (ContainsFuncA_at (hB.out.below (by exact bel_)) (hLH.out.below (by exact bel_)) hNH.out hn hoH.out rfl).mono ?_; rintro e w2 ⟨rfl, hb2⟩))
      go_ret
      exact ⟨ret_int hR.out.symm, by exact bel_⟩
    · cases ht : inB t 1 16
      all_goals
        have hR := Lib.hid (show codeH gs ts Ls t = (if inB t 1 16 = false then 2 else 0) from if_neg (by rw [hs, ← hNH.out, ho]; decide))
        have hsH := Lib.hid hs
        have hoH := Lib.hid ho
        have htH := Lib.hid ht
        clear hs ho ht
        go_enter Tryz.func30, Tryz.ntmps30
        go_wp2_with (first
          | (go_at_call 57; refine (TS.valid (hH.out.below (by exact bel_)) hsH.out).mono ?_; rintro e w1 ⟨rfl, hb1⟩; obtain ⟨chb1, fhb1, shb1, thb1⟩ := bcell hb1; have s1 := shb1 w.heap.size (by go_simp))
          | (go_at_call 58; refine (ContainsFuncA_at (hB.out.below (by exact bel_)) (hLH.out.below (by exact bel_)) hNH.out hn hoH.out rfl).mono ?_; rintro e w2 ⟨rfl, hb2⟩; obtain ⟨chb2, fhb2, shb2, thb2⟩ := bcell hb2; have s2 := shb2 w.heap.size (by go_simp))
          | (go_at_call 61; refine (isTempH_at htH.out).mono ?_; rintro e _ ⟨rfl, rfl⟩))
        go_ret
        exact ⟨ret_int (by rw [hR.out, htH.out]; rfl), by exact bel_⟩
end Go.Proofs.YthieodccakphiaaGreat
/- Walks: the groups of the single tiles; groups put together as long as two bind; IsProducedByHands. -/



namespace Go.Proofs.YthieodccakphiaaGreat
open Go.RowKit Go.Shelf
attribute [local go_sem] ByR.cell ByR.cell_drew BelowBy.cell BelowBy.cell_drew stillUpon givesUpon BelowBy.cell_drew2 BelowBy.cell_drew3

section
variable {P : Program} {ops : Array Oper}
theorem wpD_append_atI {o : Oper} {rest : List (Oper × Tag)} {a : Act} {w : World} {Q : Act → World → Prop} (hgd : o.guard = none) (s x : Operand) (t : TypeId)
    (ho : o.op = .call { callee := .builtin .append, args := #[s, x], argTypes := #[t, t] })
    (base : Nat) (e : TypeId) (i : TypeInfo) (z : Value) (size bytes : Nat) (ht : P.underlying t = some (.slice e)) (hi : P.info? e = some i) (hz : i.zero = some z)
    (hsize : i.size = size) (hby : i.bytes = bytes) (hzs : z.cells.size = size) (hsz : 0 < size)
    (v : Value) (n : Nat) (xs : List Value) (hs : a.eval s = v) (hown : w.ownsRow base e size v n xs)
    (ad : Addr) (m c : Nat) (news : List Value) (hx : a.eval x = .slice (some ad) m c) (hl : news.length = m * size) (hnews : ∀ j u, news[j]? = some u → w.cell? (ad.add j) = some u) (h1 : ∀ u ∈ news, u.oneCell' = true)
    (h63 : n + m ≤ maxLen) (hbytes : (n + m) * bytes ≤ 140737488355328) (hbase : base ≤ w.heap.size)
    (h : ∀ v' w', w'.ownsRow base e size v' (n + m) (xs ++ news) → w.grownBy w' v.ownBlock → (v'.ownBlock = v.ownBlock ∨ v'.ownBlock = some w.heap.size) → wpD P ops Q rest (a.put o.dst v') w') : wpD P ops Q ((o, .b) :: rest) a w := by
  refine wpD_b fun K hK => ?_
  have hw : Region.wanted o (yielded ops a.tmps) = true := by simp [Region.wanted, hgd]
  rw [if_pos hw]
  obtain ⟨v', w', hrun, h2, h3, _, h4⟩ := run_append_own_at (P := P) w base t o.type e i z size bytes ht hi hz hsize hby hzs hsz v n xs hown ad m c news hl hnews h1 h63 hbytes hbase
  unfold execOp
  simp only [ho, resolve, invoke, builtin, Sem.run_bind, Sem.run_pure, Result.andThen_ok, List.map_toArray, List.map_cons, List.map_nil, hs, hx, hrun]
  exact hK _ _ (h v' w' h2 h3 h4)
end
def zeroI : Nat → Nat → Int := fun _ _ => 0
theorem rowsZ_snocI (M : Nat → Nat → Int) (n k : Nat) : rowsZ M n k ++ [rowZ M n k] = rowsZ M n (k + 1) := by simp [rowsZ, List.range_succ]
theorem made_rowI (n k : Nat) : (madeCells #[Value.int .i64 0] n).toList = rowZ zeroI n k := by
  apply List.ext_getElem?
  intro j
  by_cases hj : j < n
  · rw [rowZ_get hj, Array.getElem?_toList]
    simp [madeCells, hj, zeroI, Nat.mod_one]
  · rw [List.getElem?_eq_none (by rw [Array.length_toList, size_madeCells]; omega), List.getElem?_eq_none (by rw [rowZ_len]; omega)]
theorem roomM_boundI {n : Nat} {bs : List Bd} (hb : BondsOk n bs) (m u v : Nat) : 0 ≤ roomM bs m u v ∧ roomM bs m u v ≤ 4 * (m : Int) := by
  induction m with
  | zero => simp [roomM]
  | succ m ih =>
    simp only [roomM]
    cases he : bs[m]? with
    | none => simp; omega
    | some e =>
      have h2 := hb.s m e he
      dsimp only
      by_cases hj : jo e u v = true
      · rw [if_pos hj]; omega
      · rw [if_neg hj]; omega
theorem roomM_succI {n : Nat} {bs : List Bd} (hb : BondsOk n bs) {m : Nat} {e : Bd} (he : bs[m]? = some e) : (fun a b => if a = e.b ∧ b = e.a then roomM bs m e.b e.a + e.s else if a = e.a ∧ b = e.b then roomM bs m e.a e.b + e.s else roomM bs m a b) = roomM bs (m + 1) := by
  funext a b
  have hne := hb.ne m e he
  simp only [roomM, he]
  by_cases c1 : a = e.b ∧ b = e.a
  · have hj : jo e a b = true := by simp [jo, c1]
    rw [if_pos c1, if_pos hj, c1.1, c1.2]
  · by_cases c2 : a = e.a ∧ b = e.b
    · have hj : jo e a b = true := by simp [jo, c2]
      rw [if_neg c1, if_pos c2, if_pos hj, c2.1, c2.2]
    · have hj : ¬ jo e a b = true := by
        simp only [jo, decide_eq_true_eq]
        rintro (⟨h1, h2⟩ | ⟨h1, h2⟩)
        · exact c2 ⟨h1.symm, h2.symm⟩
        · exact c1 ⟨h2.symm, h1.symm⟩
      rw [if_neg c1, if_neg c2, if_neg hj]
      omega
theorem bondsOkI {gs : List Gl} {ts : List Ti} {xs : List Pl} (hV : Valid gs ts xs) : BondsOk xs.length (bondsL gs ts xs) :=
  ⟨fun i e h => (bondsL_at hV h).1, fun i e h => (bondsL_at hV h).2.1, fun i e h => bondsL_ne h, fun i e h => (bondsL_at hV h).2.2⟩
section
variable {w w' : World} {base p n : Nat} {vG vB : Value} {xs us : List Value} {rows : List (List Value)}
theorem row_ne {g : Nat} {v : Value} {T : TypeId} {w0 : World} {base0 size0 n0 : Nat} {e0 : TypeId} {xs0 : List Value} (h : w0.ownsRow base0 e0 size0 v n0 xs0) (hT : TyAt w0 g T) (hne : T ≠ e0) : some g ≠ v.ownBlock := fun e =>
  hT.ne (TyAt.of_row h e.symm) hne rfl
/-- the row of groups has grown, its slice is stored -/
theorem Gr.growG (h : Gr w base p n vG vB xs us rows) {n' : Nat} {vG' : Value} {xs' : List Value} (hg : w.grownBy w' vG.ownBlock) (ho : w'.ownsRow base 137 3 vG' n' xs') (hi : AllI xs') :
    Gr (w'.setCell ⟨p, 0, none⟩ vG') base p n' vG' vB xs' us rows ∧ w'.cell? ⟨p, 0, none⟩ = some vG ∧ w'.frozen? ⟨p, 0, none⟩ = false ∧ p < w'.heap.size := by
  have hpb : w'.heap[p]? = some (Obj.cells #[vG, vB] 135) := (hg.block p h.lt (row_ne h.G h.tyP (by decide))).trans h.box
  have hgs : w'.grownBy (w'.setCell ⟨p, 0, none⟩ vG') (some p) := ⟨rfl, rfl, rfl, by simp, fun i hi hne => Below.heap_setCell _ _ _ _ (fun e => hne (by rw [e]))⟩
  have hB : Own2 w' base 103 2 1 vB us rows := Own2.kept h.B hg fun g' e => by
    refine ⟨fun e' => row_ne h.G (TyAt.of_row h.B.outer e') (by decide) e.symm, fun k u hu e' => ?_⟩
    obtain ⟨m, r, _, hr⟩ := h.B.get hu
    exact row_ne h.G (TyAt.of_row hr e') (by decide) e.symm
  have hTP : TyAt w' p 135 := ⟨_, hpb⟩
  refine ⟨⟨?_, h.ge, ho.kept hgs ?_, hi, Own2.kept hB hgs fun g' e => ?_⟩, by simp [World.cell?, hpb], by simp [World.frozen?, hpb], Nat.lt_of_lt_of_le h.lt hg.size⟩
  · simp [World.setCell, hpb, Array.getElem?_modify, Array.setIfInBounds]
  · cases hb : vG'.ownBlock with
    | none => exact .inl rfl
    | some b => exact .inr fun e => (TyAt.of_row ho hb).ne hTP (by decide) (by injection e)
  · injection e with e
    subst e
    refine ⟨fun e => (TyAt.of_row hB.outer e).ne hTP (by decide) rfl, fun k u hu e => ?_⟩
    obtain ⟨m, r, _, hr⟩ := hB.get hu
    exact (TyAt.of_row hr e).ne hTP (by decide) rfl
/-- a row has been laid beside the others, and their slice is stored -/
theorem Gr.growB (h : Gr w base p n vG vB xs us rows) {vB' : Value} {us' : List Value} {rows' : List (List Value)} (hg : w.grownBy w' vB.ownBlock) (ho : Own2 w' base 103 2 1 vB' us' rows') :
    Gr (w'.setCell ⟨p, 1, none⟩ vB') base p n vG vB' xs us' rows' ∧ w'.cell? ⟨p, 1, none⟩ = some vB ∧ w'.frozen? ⟨p, 1, none⟩ = false ∧ p < w'.heap.size := by
  have hpb : w'.heap[p]? = some (Obj.cells #[vG, vB] 135) := (hg.block p h.lt (row_ne h.B.outer h.tyP (by decide))).trans h.box
  have hG : w'.ownsRow base 137 3 vG n xs := h.G.kept hg (by
    cases hb : vG.ownBlock with
    | none => exact .inl rfl
    | some b => exact .inr fun e => row_ne h.B.outer (TyAt.of_row h.G hb) (by decide) e)
  have hgs : w'.grownBy (w'.setCell ⟨p, 1, none⟩ vB') (some p) := ⟨rfl, rfl, rfl, by simp, fun i hi hne => Below.heap_setCell _ _ _ _ (fun e => hne (by rw [e]))⟩
  have hTP : TyAt w' p 135 := ⟨_, hpb⟩
  refine ⟨⟨?_, h.ge, hG.kept hgs ?_, h.gi, Own2.kept ho hgs fun g' e => ?_⟩, by simp [World.cell?, hpb], by simp [World.frozen?, hpb], Nat.lt_of_lt_of_le h.lt hg.size⟩
  · simp [World.setCell, hpb, Array.getElem?_modify, Array.setIfInBounds]
  · cases hb : vG.ownBlock with
    | none => exact .inl rfl
    | some b => exact .inr fun e => (TyAt.of_row hG hb).ne hTP (by decide) (by injection e)
  · injection e with e
    subst e
    refine ⟨fun e => (TyAt.of_row ho.outer e).ne hTP (by decide) rfl, fun k u hu e => ?_⟩
    obtain ⟨m, r, _, hr⟩ := ho.get hu
    exact (TyAt.of_row hr e).ne hTP (by decide) rfl
end
theorem ownsRow_keepG {w w' : World} {base size n : Nat} {e : TypeId} {v : Value} {xs : List Value} (h : w.ownsRow base e size v n xs) (hk : KeepG w w') (he : ¬ InT e) : w'.ownsRow base e size v n xs := by
  refine ⟨h.1, h.2.imp id ?_⟩
  rintro ⟨g, cap, cur, h1, h2, h3, h4⟩
  exact ⟨g, cap, cur, h1, h2, hk _ _ _ h3 he, h4⟩
theorem FrG.refl (base : Nat) (w : World) : FrG base w w := ⟨Below.refl _ _, KeepG.refl _⟩
theorem notInT_bond : ¬ InT 182 := by unfold InT; decide
theorem cell_one_newI (w : World) (a : Value) (t : TypeId) : ∀ j u, [a][j]? = some u → (w.alloc (Obj.cells #[a] t)).cell? ((⟨w.heap.size, 0, none⟩ : Addr).add j) = some u := by
  intro j u hj
  match j, hj with
  | 0, hj => simp at hj; subst hj; simp [Addr.add]
  | j + 1, hj => simp at hj
def GrRes (w : World) (n : Nat) (M : Nat → Nat → Int) (e : Ending) (w' : World) : Prop :=
  ∃ p vG vB xs us, e = .returned (.pointer (some ⟨p, 0, none⟩)) ∧ Gr w' w.heap.size p n vG vB xs us (rowsZ M n n) ∧ Below w.heap.size w w'
set_option maxRecDepth 100000 in
set_option maxHeartbeats 8000000 in
theorem groupsOf_any (G T A : Option Addr) (n cg m ct q ca : Nat) (gs : List Gl) (ts : List Ti) (xs : List Pl) (t : Int) (w : World) (hS : SA w G n T m A q gs ts xs) (hV : Valid gs ts xs) :
    Calls Tryz.prog 62 #[.agg #[.slice G n cg, .slice T m ct, .int .i64 t], .agg #[.slice A q ca]] w (GrRes w q (roomM (bondsL gs ts xs) (bondsL gs ts xs).length)) := by
  obtain ⟨i0, hi, hz0, hz1, hz2⟩ := info_parts infoClump
  obtain ⟨i1, hi', hz0', hz1', hz2'⟩ := info_parts infoI64S
  have hlq := hS.A.len
  have hq5 := hV.len
  have hq : q ≤ 500 := by omega
  have hmk := fun W => run_makeN (P := Tryz.prog) 103 2 _ 1 8 Tryz.underlying103 infoI64 q (by omega) (by omega) W
  have hSH := Lib.hid hS
  have hVH := Lib.hid hV
  have hlqH := Lib.hid hlq
  clear hS hV hlq hq5
  go_enter Tryz.func62, Tryz.ntmps62
  go_upto_region 2 with fail
  obtain ⟨w0, hw0⟩ : ∃ W, W = ((w.alloc (Obj.cells #[.slice G n cg, .slice T m ct, .int .i64 t] 79)).alloc (Obj.cells #[.slice A q ca] 40)).alloc (Obj.cells #[.slice none 0 0, .slice none 0 0] 135) := ⟨_, rfl⟩
  rw [← hw0]
  have s0 : w0.heap.size = w.heap.size + 3 := by rw [hw0]; simp
  have y00 : Hid (w0.cell? ⟨w.heap.size, 0, none⟩ = some (.slice G n cg)) := Lib.hid (by rw [hw0]; go_simp)
  have y01 : Hid (w0.cell? ⟨w.heap.size, 1, none⟩ = some (.slice T m ct)) := Lib.hid (by rw [hw0]; go_simp)
  have y10 : Hid (w0.cell? ⟨w.heap.size + 1, 0, none⟩ = some (.slice A q ca)) := Lib.hid (by rw [hw0]; go_simp)
  have hb0 : Hid (Below w.heap.size w w0) := Lib.hid (by rw [hw0]; exact bl_al (bl_al (bl_al (bl_refl _) _) _) _)
  have hg0 : Hid (Gr w0 (w.heap.size + 2) (w.heap.size + 1 + 1) 0 (.slice none 0 0) (.slice none 0 0) [] [] (rowsZ zeroI q 0)) := Lib.hid (by
    refine ⟨?_, by omega, World.ownsRow_nil _ _ _ _, fun u hu => (by cases hu), Own2.nil _ _ _ _ _⟩
    rw [hw0]
    have := World.alloc_heap_new ((w.alloc (Obj.cells #[.slice G n cg, .slice T m ct, .int .i64 t] 79)).alloc (Obj.cells #[.slice A q ca] 40)) (Obj.cells #[.slice none 0 0, .slice none 0 0] 135)
    simpa only [World.size_alloc] using this)
  clear hw0
  have a10 := y10.out
  have l10 : w.heap.size + 1 < w0.heap.size := by omega
  go_wp2_with fail
  clear a10 l10
  go_loopg [15] q (fun g x wr => ∃ (k : Nat) (vG vB : Value) (xc us : List Value), k + g = q ∧ x = .int .i64 (k : Int) ∧ Hid (Gr wr (w.heap.size + 2) (w.heap.size + 1 + 1) k vG vB xc us (rowsZ zeroI q k)) ∧ Hid (Below (w.heap.size + 2) w0 wr))
  case atStart => exact ⟨0, _, _, _, _, by omega, rfl, hg0, Lib.hid (Below.refl _ _)⟩
  case round =>
    clear hg0
    obtain ⟨k, vG, vB, xc, us, hk, rfl, hg, hbw⟩ := hrel
    have hsw : w.heap.size + 3 ≤ wr.heap.size := by have := hbw.out.size; omega
    have hbwr : Hid (Below w.heap.size w wr) := Lib.hid (hb0.out.trans (hbw.out.mono (by omega)))
    by_cases hkq : k < q
    · obtain ⟨e, he⟩ : ∃ e, xs[k]? = some e := ⟨_, List.getElem?_eq_getElem (by have := hlqH.out; omega)⟩
      obtain ⟨bA, oA, rfl, hbA, hcA⟩ := (hSH.out.A.below RPl.stable hbwr.out).ptr (by omega)
      obtain ⟨a0, a1, a2⟩ := hcA k e he
      clear hcA he
      go_upto_region 5 with fail
      obtain ⟨w4, hw4⟩ : ∃ W, W = wr.alloc (Obj.cells #[.int .i64 e.x, .int .i64 e.y, .int .i64 e.t] 108) := ⟨_, rfl⟩
      rw [← hw4]
      have s4 : w4.heap.size = wr.heap.size + 1 := by rw [hw4]; simp
      have e0 : w4.cell? ⟨wr.heap.size, 0, none⟩ = some (.int .i64 e.x) := by rw [hw4]; go_simp
      have e1 : w4.cell? ⟨wr.heap.size, 1, none⟩ = some (.int .i64 e.y) := by rw [hw4]; go_simp
      have e2 : w4.cell? ⟨wr.heap.size, 2, none⟩ = some (.int .i64 e.t) := by rw [hw4]; go_simp
      have hg4 : Hid (Gr w4 (w.heap.size + 2) (w.heap.size + 1 + 1) k vG vB xc us (rowsZ zeroI q k)) := Lib.hid (by rw [hw4]; exact hg.out.below (bl_al (bl_refl _) _))
      have hbw4 : Hid (Below (w.heap.size + 2) w0 w4) := Lib.hid (by rw [hw4]; exact hbw.out.trans ((bl_al (bl_refl _) _).mono (by omega)))
      have hlt4 : wr.heap.size < w4.heap.size := by omega
      have c0 := hg4.out.c0
      have lp := hg4.out.lt
      have hs4b : w.heap.size + 2 ≤ w4.heap.size := by omega
      clear hw4 hg hbw hbwr a0 a1 a2 s4
      refine wp_region_ord [(0, .p), (1, .q), (2, .q), (3, .q), (4, .q), (5, .q), (6, .q), (7, .q), (8, .q), (9, .q), (10, .g), (11, .b), (12, .q), (13, .q), (14, .b)] (by kernel_rfl) (by kernel_rfl) ?_
      simp only [pick, List.filterMap_cons, List.filterMap_nil, List.getElem?_toArray, List.getElem?_cons_zero, List.getElem?_cons_succ, Option.map_some]
      repeat (first | ((with_reducible refine wpD_p (fun K hK => ?_)); go_simp; refine hK _ ?_; clear hK K) | ((with_reducible refine wpD_q (fun K hK => ?_)); go_simp; (first | refine hK _ ?_ | (go_bits; refine hK _ ?_) | (go_bits; go_simp; refine hK _ ?_)); clear hK K))
      with_reducible refine wpD_g (fun K hK => ?_)
      go_simp
      refine ⟨Grew.of_alloc _, hK _ _ ?_⟩
      clear hK K
      have hb5 : Hid (Below w4.heap.size w4 (w4.alloc (Obj.cells #[.int .i64 e.t, .int .i64 e.x, .int .i64 e.y] 137)).drew) := Lib.hid (by exact bel_)
      refine wpD_append_atI rfl _ _ 132 rfl (w.heap.size + 2) 137 i0 (.agg #[.int .i64 0, .int .i64 0, .int .i64 0]) 3 24 Tryz.underlying132 hi hz0 hz1 hz2 rfl (by decide) vG k xc (by go_simp) (hg4.out.below hb5.out).G ⟨w4.heap.size, 0, none⟩ 1 1 [.int .i64 e.t, .int .i64 e.x, .int .i64 e.y] (by go_simp) rfl ?hnews (fun x hx => by simp at hx; rcases hx with rfl | rfl | rfl <;> rfl) (by unfold maxLen; omega) (by omega) (by simp; omega) ?_
      case hnews =>
        have := cell_three_new w4 (.int .i64 e.t) (.int .i64 e.x) (.int .i64 e.y) 137
        simpa using this
      intro v1 w5 hown hgrow hat
      obtain ⟨g1, cap1, rfl⟩ := ownsRow_succ hown
      obtain ⟨hg5, c5, f5, l5⟩ := (hg4.out.below hb5.out).growG hgrow hown (fun u hu => by
        rcases List.mem_append.1 hu with hu | hu
        · exact hg4.out.gi u hu
        · simp at hu
          rcases hu with rfl | rfl | rfl <;> exact ⟨_, rfl⟩)
      have hg5H := Lib.hid hg5
      have hb5w : Hid (Below (w.heap.size + 2) w0 (w5.setCell ⟨w.heap.size + 1 + 1, 0, none⟩ (.slice (some ⟨g1, 0, none⟩) (k + 1) cap1))) := Lib.hid (((hbw4.out.trans (hb5.out.mono hs4b)).grown hgrow (by simp; omega) (fun g e => (hg4.out.G.lt g e).1)).setCell (p := ⟨w.heap.size + 1 + 1, 0, none⟩) (by show w.heap.size + 2 ≤ w.heap.size + 1 + 1; omega) _)
      clear hown hgrow hat hg5 e0 e1 e2 c0 lp hb5 hbw4 hg4
      repeat (first | ((with_reducible refine wpD_p (fun K hK => ?_)); go_simp; refine hK _ ?_; clear hK K) | ((with_reducible refine wpD_q (fun K hK => ?_)); go_simp; (first | refine hK _ ?_ | (go_bits; refine hK _ ?_) | (go_bits; go_simp; refine hK _ ?_)); clear hK K))
      with_reducible refine wpD_b (fun K hK => ?_)
      go_simp
      refine hK _ _ ?_
      clear hK K
      with_reducible refine wpD_nil ?_
      obtain ⟨w6, hw6⟩ : ∃ W, W = w5.setCell ⟨w.heap.size + 1 + 1, 0, none⟩ (.slice (some ⟨g1, 0, none⟩) (k + 1) cap1) := ⟨_, rfl⟩
      rw [← hw6] at hg5H hb5w ⊢
      clear hw6 c5 f5 l5 hlt4 hs4b
      have hs6 : w.heap.size + 3 ≤ w6.heap.size := by have := hb5w.out.size; omega
      have y6 : w6.cell? ⟨w.heap.size + 1, 0, none⟩ = some (.slice (some ⟨bA, oA, none⟩) q ca) := (hb5w.out.cell (p := ⟨w.heap.size + 1, 0, none⟩) (by simp)).trans y10.out
      have l6 : w.heap.size + 1 < w6.heap.size := by omega
      have c1 := hg5H.out.c1
      have lp := hg5H.out.lt
      go_wp2_with fail
      refine wp_region_ord [(0, .p), (1, .q), (2, .q), (3, .q), (4, .q), (5, .q), (6, .q), (7, .q), (8, .g), (9, .g), (10, .b), (11, .q), (12, .q), (13, .b)] (by kernel_rfl) (by kernel_rfl) ?_
      simp only [pick, List.filterMap_cons, List.filterMap_nil, List.getElem?_toArray, List.getElem?_cons_zero, List.getElem?_cons_succ, Option.map_some]
      repeat (first | ((with_reducible refine wpD_p (fun K hK => ?_)); go_simp; refine hK _ ?_; clear hK K) | ((with_reducible refine wpD_q (fun K hK => ?_)); go_simp; (first | refine hK _ ?_ | (go_bits; refine hK _ ?_) | (go_bits; go_simp; refine hK _ ?_)); clear hK K))
      with_reducible refine wpD_g (fun K hK => ?_)
      go_simp
      refine ⟨Grew.of_alloc _, hK _ _ ?_⟩
      clear hK K
      repeat (first | ((with_reducible refine wpD_p (fun K hK => ?_)); go_simp; refine hK _ ?_; clear hK K) | ((with_reducible refine wpD_q (fun K hK => ?_)); go_simp; (first | refine hK _ ?_ | (go_bits; refine hK _ ?_) | (go_bits; go_simp; refine hK _ ?_)); clear hK K))
      with_reducible refine wpD_g (fun K hK => ?_)
      go_simp
      refine ⟨Grew.of_alloc _, hK _ _ ?_⟩
      clear hK K
      have hb7 : Hid (Below w6.heap.size w6 ((w6.alloc (Obj.cells (madeCells #[Value.int .i64 0] q) 2)).alloc (Obj.cells #[Value.slice (some ⟨w6.heap.size, 0, none⟩) q q] 103)).drew) := Lib.hid (by exact bel_)
      have hx : Hid (((w6.alloc (Obj.cells (madeCells #[Value.int .i64 0] q) 2)).alloc (Obj.cells #[Value.slice (some ⟨w6.heap.size, 0, none⟩) q q] 103)).drew.ownsRow (w.heap.size + 2) 2 1 (.slice (some ⟨w6.heap.size, 0, none⟩) q q) q (rowZ zeroI q k)) := Lib.hid (by
        rw [← made_rowI]
        exact (World.ownsRow_lit w6 (madeCells #[Value.int .i64 0] q) q (by omega) (by unfold maxLen; omega) (by rw [size_madeCells, Nat.mul_one])).alloc _)
      have hlB := Lib.hid (show us.length = k by rw [hg5H.out.B.len, rowsZ_len])
      refine wpD_append_atI rfl _ _ 133 rfl (w.heap.size + 2) 103 i1 (.slice none 0 0) 1 24 Tryz.underlying133 hi' hz0' hz1' hz2' rfl (by decide) vB k us (by go_simp) ((hg5H.out.below hb7.out).B.outerN hlB.out) ⟨w6.heap.size + 1, 0, none⟩ 1 1 [.slice (some ⟨w6.heap.size, 0, none⟩) q q] (by go_simp) rfl ?hnews2 (fun x hx => by simp at hx; subst hx; rfl) (by unfold maxLen; omega) (by omega) (by simp; omega) ?_
      case hnews2 =>
        have := cell_one_newI (w6.alloc (Obj.cells (madeCells #[Value.int .i64 0] q) 2)) (.slice (some ⟨w6.heap.size, 0, none⟩) q q) 103
        simpa using this
      intro v2 w7 hown hgrow hat
      obtain ⟨g2, cap2, rfl⟩ := ownsRow_succ hown
      have hB7 := Own2.push (hg5H.out.below hb7.out).B hlB.out hx.out (fun g e => by
        have e2 : w6.heap.size = g := by injection e
        subst e2
        exact ⟨fun e' => by have := (hg5H.out.B.lt _ e').2; omega, fun j u hu e' => by have := (hg5H.out.B.ltIn hu _ e').2; omega⟩) hown hgrow hat
      rw [rowsZ_snocI] at hB7
      obtain ⟨hg7, c7, f7, l7⟩ := (hg5H.out.below hb7.out).growB hgrow hB7
      have hg7H := Lib.hid hg7
      have hbw7 : Hid (Below (w.heap.size + 2) w0 (w7.setCell ⟨w.heap.size + 1 + 1, 1, none⟩ (.slice (some ⟨g2, 0, none⟩) (k + 1) cap2))) := Lib.hid (((hb5w.out.trans (hb7.out.mono (by omega))).grown hgrow (by simp; omega) (fun g e => (hg5H.out.B.lt g e).1)).setCell (p := ⟨w.heap.size + 1 + 1, 1, none⟩) (by show w.heap.size + 2 ≤ w.heap.size + 1 + 1; omega) _)
      clear hown hgrow hat hB7 hg7 c1 lp hb5w hb7 hg5H y6 l6 hx
      repeat (first | ((with_reducible refine wpD_p (fun K hK => ?_)); go_simp; refine hK _ ?_; clear hK K) | ((with_reducible refine wpD_q (fun K hK => ?_)); go_simp; (first | refine hK _ ?_ | (go_bits; refine hK _ ?_) | (go_bits; go_simp; refine hK _ ?_)); clear hK K))
      with_reducible refine wpD_b (fun K hK => ?_)
      go_simp
      refine hK _ _ ?_
      clear hK K
      with_reducible refine wpD_nil ?_
      go_wp2_with fail
      go_roundg (q - (k + 1))
      case measure => omega
      case rel => exact ⟨k + 1, _, _, _, _, by omega, by go_num, hg7H, hbw7⟩
    · obtain rfl : q = k := by omega
      have hg8 : Hid (Gr wr (w.heap.size + 2) (w.heap.size + 1 + 1) q vG vB xc us (rowsZ (roomM (bondsL gs ts xs) 0) q q)) := hg
      have a00 := (hbw.out.cell (p := ⟨w.heap.size, 0, none⟩) (by simp)).trans y00.out
      have a01 := (hbw.out.cell (p := ⟨w.heap.size, 1, none⟩) (by simp)).trans y01.out
      have a10 := (hbw.out.cell (p := ⟨w.heap.size + 1, 0, none⟩) (by simp)).trans y10.out
      have l0 : w.heap.size < wr.heap.size := by omega
      have l1 : w.heap.size + 1 < wr.heap.size := by omega
      clear hg hmk
      go_wp2_with fail
      refine (bonds_any G T A n cg m ct q ca gs ts xs _ (hSH.out.G.below RGl.stable hbwr.out) (hSH.out.T.below RTi.stable hbwr.out) (hSH.out.A.below RPl.stable hbwr.out) hVH.out).mono ?_
      rintro e' w9 ⟨vb, rfl, hob, hb9⟩
      obtain ⟨AB, cb, rfl, rdb⟩ := rd_of_row hob
      have hbl := bondsL_len hVH.out
      have hbk := Lib.hid (bondsOkI hVH.out)
      rw [hlqH.out] at hbk
      obtain ⟨bs, hbs⟩ : ∃ bs, bondsL gs ts xs = bs := ⟨_, rfl⟩
      have hrdH := Lib.hid rdb
      have hobH := Lib.hid hob
      have hbsH := Lib.hid hbs
      rw [hbs] at hbl hbk hg8 hrdH hobH ⊢
      have hg9 := Lib.hid (hg8.out.below hb9)
      have hbw9 := Lib.hid (hbw.out.trans (hb9.mono (show w.heap.size + 2 ≤ wr.heap.size by omega)))
      clear hob rdb hb9 hbw hbwr hg8 hbs a00 a01 a10 l0 l1 hsw
      obtain ⟨bl, hbln⟩ : ∃ n, bs.length = n := ⟨_, rfl⟩
      rw [hbln] at hbl hrdH hobH ⊢
      have hblnH := Lib.hid hbln
      clear hbln
      go_wp2_with fail
      go_loopg [52] bl (fun g x wr => ∃ j : Nat, j + g = bl ∧ x = .int .i64 (j : Int) ∧ Hid (Gr wr (w.heap.size + 2) (w.heap.size + 1 + 1) q vG vB xc us (rowsZ (roomM bs j) q q)) ∧ Hid (FrG (w.heap.size + 2) w9 wr))
      case atStart => exact ⟨0, by omega, rfl, hg9, Lib.hid (FrG.refl _ _)⟩
      case round =>
        clear hg9
        obtain ⟨j, hj, rfl, hg, hF⟩ := hrel
        have hsw : w.heap.size + 3 ≤ wr.heap.size := by have h1 := hbw9.out.size; have h2 := hF.out.b.size; omega
        by_cases hjl : j < bl
        · obtain ⟨AB', cb', hvv, hrd⟩ := rd_of_row (bs := bs) (by rw [hblnH.out]; exact ownsRow_keepG hobH.out hF.out.k notInT_bond)
          injection hvv with hv1 hv2 hv3
          subst hv1 hv3
          obtain ⟨bb, ob, rfl, hbb, hbc⟩ := hrd.ptr (by have := hblnH.out; omega)
          obtain ⟨e, he⟩ : ∃ e, bs[j]? = some e := ⟨_, List.getElem?_eq_getElem (by have := hblnH.out; omega)⟩
          obtain ⟨x0, x1, x2⟩ := hbc j e he
          have hea := hbk.out.a j e he
          have heb := hbk.out.b j e he
          have hne := hbk.out.ne j e he
          have hs4 := hbk.out.s j e he
          have hsucc := Lib.hid (roomM_succI hbk.out he)
          have hr1 := roomM_boundI hbk.out j e.a e.b
          have hr2 := roomM_boundI hbk.out j e.b e.a
          clear hbc he hrd hv2
          go_upto_region 11 with fail
          obtain ⟨w4, hw4⟩ : ∃ W, W = wr.alloc (Obj.cells #[.int .i64 (e.a : Int), .int .i64 (e.b : Int), .int .i64 e.s] 182) := ⟨_, rfl⟩
          rw [← hw4]
          have s4 : w4.heap.size = wr.heap.size + 1 := by rw [hw4]; simp
          have e0 : w4.cell? ⟨wr.heap.size, 0, none⟩ = some (.int .i64 (e.a : Int)) := by rw [hw4]; go_simp
          have e1 : w4.cell? ⟨wr.heap.size, 1, none⟩ = some (.int .i64 (e.b : Int)) := by rw [hw4]; go_simp
          have e2 : w4.cell? ⟨wr.heap.size, 2, none⟩ = some (.int .i64 e.s) := by rw [hw4]; go_simp
          have eT : TyAt w4 wr.heap.size 182 := by rw [hw4]; exact ⟨_, World.alloc_heap_new _ _⟩
          have hg4 : Hid (Gr w4 (w.heap.size + 2) (w.heap.size + 1 + 1) q vG vB xc us (rowsZ (roomM bs j) q q)) := Lib.hid (by rw [hw4]; exact hg.out.below (bl_al (bl_refl _) _))
          have hF4 : Hid (FrG (w.heap.size + 2) w9 w4) := Lib.hid (by rw [hw4]; exact hF.out.trans (FrG.of_below (bl_al (bl_refl _) _) (by omega)))
          have lb : wr.heap.size < w4.heap.size := by omega
          obtain ⟨gB, cB, rfl⟩ : ∃ g c, vB = .slice (some ⟨g, 0, none⟩) q c := Own2.formPos hg4.out.B (by rw [hg4.out.B.len, rowsZ_len]) (by omega)
          obtain ⟨ga, ka, hxa⟩ := Mat.slot (show Mat w4 (w.heap.size + 2) _ us q _ from hg4.out.B) hea
          obtain ⟨gb, kb, hxb⟩ := Mat.slot (show Mat w4 (w.heap.size + 2) _ us q _ from hg4.out.B) heb
          obtain ⟨d1, l1, l2, hbi, f1, dc⟩ := Mat.rowAt (show Mat w4 (w.heap.size + 2) _ us q _ from hg4.out.B) hea hxa
          have d2 := dc e.b heb
          have f2 := f1 e.b
          obtain ⟨r1, hr1E⟩ : ∃ r, roomM bs j e.a e.b = r := ⟨_, rfl⟩
          rw [hr1E] at d2 hr1
          have hr1H := Lib.hid hr1E
          have hw1 : IntKind.i64.wrap (r1 + e.s) = r1 + e.s := IntWalk.i64_in _ ⟨by omega, by omega⟩
          have hTa : TyAt w4 ga 2 := by
            obtain ⟨m', r', _, ho'⟩ := hg4.out.B.get hxa
            exact TyAt.of_row ho' rfl
          have hwa : ¬ wr.heap.size = ga := eT.ne hTa (by decide)
          have c1 := hg4.out.c1
          have lp := hg4.out.lt
          have hg5 := Lib.hid (hg4.out.set (j := e.b) hea hxa (r1 + e.s))
          have hxaH := Lib.hid hxa
          have hxbH := Lib.hid hxb
          clear hg hF hw4 dc f1 hxa hxb hr1E hg4 hTa x0 x1 x2 hbb s4
          refine wp_region_ord [(0, .q), (1, .q), (2, .q), (3, .q), (4, .q), (5, .q), (6, .q), (7, .q), (8, .q), (9, .q), (10, .q), (11, .q), (12, .q), (13, .q), (14, .q), (15, .q), (16, .b)] (by kernel_rfl) (by kernel_rfl) ?_
          simp only [pick, List.filterMap_cons, List.filterMap_nil, List.getElem?_toArray, List.getElem?_cons_zero, List.getElem?_cons_succ, Option.map_some]
          repeat (first | ((with_reducible refine wpD_p (fun K hK => ?_)); go_simp; refine hK _ ?_; clear hK K) | ((with_reducible refine wpD_q (fun K hK => ?_)); go_simp; (first | refine hK _ ?_ | (go_bits; refine hK _ ?_) | (go_bits; go_simp; refine hK _ ?_)); clear hK K))
          with_reducible refine wpD_b (fun K hK => ?_)
          go_simp
          refine hK _ _ ?_
          clear hK K
          with_reducible refine wpD_nil ?_
          obtain ⟨w5, hw5⟩ : ∃ W, W = (w4.setCell ⟨ga, e.b, none⟩ (.int .i64 (r1 + e.s))).drew := ⟨_, rfl⟩
          rw [← hw5]
          have hg6 : Hid (Gr w5 (w.heap.size + 2) (w.heap.size + 1 + 1) q vG (.slice (some ⟨gB, 0, none⟩) q cB) xc us (rowsZ (fun a b => if a = e.a ∧ b = e.b then r1 + e.s else roomM bs j a b) q q)) := Lib.hid (by rw [hw5]; exact hg5.out.1.below (Below.drew (Below.refl _ _)))
          have hF6 : Hid (FrG (w.heap.size + 2) w9 w5) := Lib.hid (by rw [hw5]; exact (hF4.out.trans hg5.out.2).trans (FrG.of_below (Below.drew (Below.refl _ _)) (by simp; omega)))
          have k0 : w5.cell? ⟨wr.heap.size, 0, none⟩ = some (.int .i64 (e.a : Int)) := by rw [hw5]; go_simp
          have k1 : w5.cell? ⟨wr.heap.size, 1, none⟩ = some (.int .i64 (e.b : Int)) := by rw [hw5]; go_simp
          have k2 : w5.cell? ⟨wr.heap.size, 2, none⟩ = some (.int .i64 e.s) := by rw [hw5]; go_simp
          have lb5 : wr.heap.size < w5.heap.size := by rw [hw5]; simp; exact lb
          clear hw5 hg5 hF4 c1 lp d1 d2 f2 l1 l2 e0 e1 e2 lb eT hw1 hwa
          obtain ⟨d1, l1, l2, hbi2, f1, dc⟩ := Mat.rowAt (show Mat w5 (w.heap.size + 2) _ us q _ from hg6.out.B) heb hxbH.out
          have d2 := dc e.a hea
          have f2 := f1 e.a
          rw [if_neg (fun c => hne c.1.symm)] at d2
          obtain ⟨r2, hr2E⟩ : ∃ r, roomM bs j e.b e.a = r := ⟨_, rfl⟩
          rw [hr2E] at d2 hr2
          have hw2 : IntKind.i64.wrap (r2 + e.s) = r2 + e.s := IntWalk.i64_in _ ⟨by omega, by omega⟩
          have c1 := hg6.out.c1
          have lp := hg6.out.lt
          have hg7 := Lib.hid (hg6.out.set (j := e.a) heb hxbH.out (r2 + e.s))
          have hr2H := Lib.hid hr2E
          have hneH := Lib.hid hne
          clear dc f1 hr2E hg6 hne
          go_wp2_with fail
          refine wp_region_ord [(0, .q), (1, .q), (2, .q), (3, .q), (4, .q), (5, .q), (6, .q), (7, .q), (8, .q), (9, .q), (10, .q), (11, .q), (12, .q), (13, .q), (14, .q), (15, .q), (16, .b)] (by kernel_rfl) (by kernel_rfl) ?_
          simp only [pick, List.filterMap_cons, List.filterMap_nil, List.getElem?_toArray, List.getElem?_cons_zero, List.getElem?_cons_succ, Option.map_some]
          repeat (first | ((with_reducible refine wpD_p (fun K hK => ?_)); go_simp; refine hK _ ?_; clear hK K) | ((with_reducible refine wpD_q (fun K hK => ?_)); go_simp; (first | refine hK _ ?_ | (go_bits; refine hK _ ?_) | (go_bits; go_simp; refine hK _ ?_)); clear hK K))
          with_reducible refine wpD_b (fun K hK => ?_)
          go_simp
          refine hK _ _ ?_
          clear hK K
          with_reducible refine wpD_nil ?_
          go_wp2_with fail
          go_roundg (bl - (j + 1))
          case measure => omega
          case rel =>
            refine ⟨j + 1, by omega, by go_num, Lib.hid ?_, Lib.hid ?_⟩
            · have hM : (fun a b => if a = e.b ∧ b = e.a then r2 + e.s else (fun a b => if a = e.a ∧ b = e.b then r1 + e.s else roomM bs j a b) a b) = roomM bs (j + 1) := by
                rw [← hsucc.out, hr1H.out, hr2H.out]
              have h3 := hg7.out.1
              rw [hM] at h3
              exact h3.below (Below.drew (Below.refl _ _))
            · exact (hF6.out.trans hg7.out.2).trans (FrG.of_below (Below.drew (Below.refl _ _)) (by simp; omega))
        · obtain rfl : bl = j := by omega
          go_wp2_with fail
          go_ret
          have hg' := hg.out
          rw [hbsH.out, hblnH.out]
          refine ⟨_, vG, vB, xc, us, rfl, ⟨hg'.box, by have := hg'.ge; omega, ?_, hg'.gi, Own2.rebase (base' := w.heap.size) hg'.B (by omega)⟩, (hb0.out.trans (show Below w.heap.size w0 w9 from hbw9.out.mono (by omega))).trans (show Below w.heap.size w9 wr from hF.out.b.mono (by omega))⟩
          exact ⟨hg'.G.1, hg'.G.2.imp id (fun ⟨g, cap, cur, h1, h2, h3⟩ => ⟨g, cap, cur, h1, by omega, h3⟩)⟩
end Go.Proofs.YthieodccakphiaaGreat
/- Walks: groups put together as long as two bind; IsProducedByHands of the program. -/

namespace Go.Proofs.YthieodccakphiaaGreat
open Go.RowKit Go.Shelf
attribute [local go_sem] ByR.cell ByR.cell_drew BelowBy.cell BelowBy.cell_drew stillUpon givesUpon BelowBy.cell_drew2 BelowBy.cell_drew3

theorem infoMerge : (Tryz.prog.info? 114).map (fun i => (i.zero, i.size, i.bytes)) = some (some (.agg #[.int .i64 0, .int .i64 0, .int .i64 0, .int .i64 0]), 4, 32) := by kernel_rfl
theorem notInT_merge : ¬ InT 114 := by unfold InT; decide
theorem minusX_any (a b c d : Int) (w : World) :
    Calls Tryz.prog 64 #[.agg #[.int .i64 a, .int .i64 b], .agg #[.int .i64 c, .int .i64 d]] w fun e w' => ∃ x y : Int, e = .returned (.agg #[.int .i64 x, .int .i64 y]) ∧ Below w.heap.size w w' := by
  go_enter Tryz.func64, Tryz.ntmps64
  go_wp2
  refine bodyPost_ret (v := .agg #[.int .i64 (wrap64 (a - c)), .int .i64 (wrap64 (b - d))]) (by simp only [results, Tryz.results64]; go_simp) rfl ?_
  exact ⟨_, _, rfl, by exact bel_⟩
theorem cell_four_newI (w : World) (a b c d : Value) (t : TypeId) : ∀ j u, [a, b, c, d][j]? = some u → (w.alloc (Obj.cells #[a, b, c, d] t)).cell? ((⟨w.heap.size, 0, none⟩ : Addr).add j) = some u := by
  intro j u hj
  match j, hj with
  | 0, hj => simp at hj; subst hj; simp [Addr.add]
  | 1, hj => simp at hj; subst hj; simp [Addr.add]
  | 2, hj => simp at hj; subst hj; simp [Addr.add]
  | 3, hj => simp at hj; subst hj; simp [Addr.add]
  | j + 4, hj => simp at hj
theorem Gr.otherRow {w w' : World} {base p n base' size c : Nat} {e : TypeId} {vG vB v : Value} {xs us xo : List Value} {rows : List (List Value)} (h : Gr w base p n vG vB xs us rows) (ho : w.ownsRow base' e size v c xo) (he : ¬ InT e) (hg : w.grownBy w' v.ownBlock) : Gr w' base p n vG vB xs us rows := by
  cases hb : v.ownBlock with
  | none =>
    rw [hb] at hg
    exact h.kept hg (fun g e => by cases e)
  | some g =>
    rw [hb] at hg
    exact h.other (TyAt.of_row ho hb) he hg
def MgRes (w : World) (n : Nat) (e : Ending) (w' : World) : Prop := ∃ v, e = .returned (.tuple #[v, .int .i64 (n : Int)]) ∧ Below w.heap.size w w'
set_option maxRecDepth 100000 in
set_option maxHeartbeats 8000000 in
theorem merges_any (G T A : Option Addr) (n cg m ct q ca : Nat) (gs : List Gl) (ts : List Ti) (xs : List Pl) (t : Int) (w : World) (hS : SA w G n T m A q gs ts xs) (hV : Valid gs ts xs) :
    Calls Tryz.prog 31 #[.agg #[.slice G n cg, .slice T m ct, .int .i64 t], .agg #[.slice A q ca]] w (MgRes w (leftE gs ts xs t)) := by
  obtain ⟨i0, hi, hz0, hz1, hz2⟩ := info_parts infoMerge
  have hlq := hS.A.len
  have hlm := hS.T.len
  have hq5 := hV.len
  have hm5 := hV.tl
  have hq : q ≤ 500 := by omega
  have hm : m ≤ 160 := by omega
  have hE : leftM t q (roomM (bondsL gs ts xs) (bondsL gs ts xs).length) = leftE gs ts xs t := by unfold leftE; rw [hlq]
  have hEH := Lib.hid hE
  have hSH := Lib.hid hS
  have hVH := Lib.hid hV
  clear hS hV hlq hq5 hE hlm hm5
  go_enter Tryz.func31, Tryz.ntmps31
  go_wp2_with fail
  obtain ⟨w0, hw0⟩ : ∃ W, W = (w.alloc (Obj.cells #[.slice G n cg, .slice T m ct, .int .i64 t] 79)).alloc (Obj.cells #[.slice A q ca] 40) := ⟨_, rfl⟩
  rw [← hw0]
  have s0 : w0.heap.size = w.heap.size + 2 := by rw [hw0]; simp
  have y01 : Hid (w0.cell? ⟨w.heap.size, 1, none⟩ = some (.slice T m ct)) := Lib.hid (by rw [hw0]; go_simp)
  have y02 : Hid (w0.cell? ⟨w.heap.size, 2, none⟩ = some (.int .i64 t)) := Lib.hid (by rw [hw0]; go_simp)
  have hb0 : Hid (Below w.heap.size w w0) := Lib.hid (by rw [hw0]; exact bl_al (bl_al (bl_refl _) _) _)
  clear hw0
  refine (groupsOf_any G T A n cg m ct q ca gs ts xs t _ (hSH.out.below hb0.out) hVH.out).mono ?_
  rintro e w1 ⟨p, vG, vB, xc, us, rfl, hg, hb1⟩
  obtain ⟨L, hL⟩ : ∃ L, leftE gs ts xs t = L := ⟨_, rfl⟩
  have hLH := Lib.hid hL
  rw [hL] at hEH ⊢
  rw [s0] at hg hb1
  have hs1 : w.heap.size + 2 ≤ w1.heap.size := by have := hb1.size; omega
  have q0 : Hid (∃ vG vB xc us M, Gr w1 (w.heap.size + 2) p q vG vB xc us (rowsZ M q q) ∧ leftM t q M = L) := Lib.hid ⟨vG, vB, xc, us, _, hg, hEH.out⟩
  have hb1H := Lib.hid hb1
  clear hg hb1 hL hEH
  go_wp2_with fail
  go_loopg [7] q (fun g y wr => ∃ (v : Value) (c nn : Nat), nn = g ∧ c + nn = q ∧ v = y ∧ Hid (∃ vG vB xc us M, Gr wr (w.heap.size + 2) p nn vG vB xc us (rowsZ M nn nn) ∧ leftM t nn M = L) ∧ Hid (∃ xo, wr.ownsRow (w.heap.size + 2) 114 4 v c xo) ∧ Hid (Below (w.heap.size + 2) w0 wr))
  case atStart => exact ⟨_, 0, q, rfl, by omega, rfl, q0, Lib.hid ⟨[], World.ownsRow_nil _ _ _ _⟩, hb1H⟩
  case round =>
    clear q0
    obtain ⟨v, c, nn, rfl, hc, rfl, hq', ho', hbw⟩ := hrel
    obtain ⟨vG, vB, xc, us, M, hg, hM⟩ := hq'.out
    obtain ⟨xo, ho⟩ := ho'.out
    have hgH := Lib.hid hg
    have hMH := Lib.hid hM
    have hoH := Lib.hid ho
    have hsw : w.heap.size + 2 ≤ wr.heap.size := by have := hbw.out.size; omega
    have a1 := (hbw.out.cell (p := ⟨w.heap.size, 1, none⟩) (by simp)).trans y01.out
    have a2 := (hbw.out.cell (p := ⟨w.heap.size, 2, none⟩) (by simp)).trans y02.out
    have l0 : w.heap.size < wr.heap.size := by omega
    clear hq' ho' hg hM ho
    go_wp2_with fail
    refine (pair_any (w.heap.size + 2) p nn vG vB xc us M t _ hgH.out (by omega)).mono ?_
    rintro e w2 ⟨hpr, hw2⟩
    have hw3 := hw2.symm
    subst hw3
    clear hw2
    rcases hpr with ⟨i, k, hf, rfl⟩ | ⟨hno, rfl⟩
    · have hik := hf.1
      have hkn := hf.2.1
      obtain ⟨gG, cG, rfl⟩ : ∃ g c, vG = .slice (some ⟨g, 0, none⟩) nn c := by
        rcases hgH.out.G.2 with ⟨_, h0⟩ | ⟨g, c, cur, hv, _⟩
        · omega
        · exact ⟨g, c, hv⟩
      have hcI : ∀ j, j < nn * 3 → ∃ v : Int, wr.cell? ⟨gG, j, none⟩ = some (.int .i64 v) := fun j hj => by
        have hjl : j < xc.length := by rw [hgH.out.G.1]; exact hj
        obtain ⟨v, hv⟩ := hgH.out.gi _ (List.getElem_mem hjl)
        exact ⟨v, (hgH.out.G.cellAt j hj).trans (by rw [List.getElem?_eq_getElem hjl, hv])⟩
      obtain ⟨i0', ci0⟩ := hcI (i * 3) (by omega)
      obtain ⟨i1', ci1⟩ := hcI (i * 3 + 1) (by omega)
      obtain ⟨i2', ci2⟩ := hcI (i * 3 + 1 + 1) (by omega)
      obtain ⟨k0', ck0⟩ := hcI (k * 3) (by omega)
      obtain ⟨k1', ck1⟩ := hcI (k * 3 + 1) (by omega)
      obtain ⟨k2', ck2⟩ := hcI (k * 3 + 1 + 1) (by omega)
      have c0 := hgH.out.c0
      have lp := hgH.out.lt
      have lG := (hgH.out.G.lt gG rfl).2
      have hfH := Lib.hid hf
      clear hcI hf
      go_wp2_with fail
      go_region
      all_goals
        first
          | (obtain ⟨w4, hw4⟩ : ∃ W, W = ((wr.alloc (Obj.cells #[.int .i64 i0', .int .i64 i1', .int .i64 i2'] 137)).alloc (Obj.cells #[.int .i64 k0', .int .i64 k1', .int .i64 k2'] 137)).drew := ⟨_, rfl⟩; rw [← hw4]; have o0 : w4.cell? ⟨wr.heap.size, 0, none⟩ = some (.int .i64 i0') := (by rw [hw4]; go_simp); have o1 : w4.cell? ⟨wr.heap.size, 1, none⟩ = some (.int .i64 i1') := (by rw [hw4]; go_simp); have o2 : w4.cell? ⟨wr.heap.size, 2, none⟩ = some (.int .i64 i2') := (by rw [hw4]; go_simp); have t0 : w4.cell? ⟨wr.heap.size + 1, 0, none⟩ = some (.int .i64 k0') := (by rw [hw4]; go_simp); have t1 : w4.cell? ⟨wr.heap.size + 1, 1, none⟩ = some (.int .i64 k1') := (by rw [hw4]; go_simp); have t2 : w4.cell? ⟨wr.heap.size + 1, 2, none⟩ = some (.int .i64 k2') := (by rw [hw4]; go_simp))
          | (obtain ⟨w4, hw4⟩ : ∃ W, W = ((wr.alloc (Obj.cells #[.int .i64 k0', .int .i64 k1', .int .i64 k2'] 137)).alloc (Obj.cells #[.int .i64 i0', .int .i64 i1', .int .i64 i2'] 137)).drew := ⟨_, rfl⟩; rw [← hw4]; have o0 : w4.cell? ⟨wr.heap.size + 1, 0, none⟩ = some (.int .i64 i0') := (by rw [hw4]; go_simp); have o1 : w4.cell? ⟨wr.heap.size + 1, 1, none⟩ = some (.int .i64 i1') := (by rw [hw4]; go_simp); have o2 : w4.cell? ⟨wr.heap.size + 1, 2, none⟩ = some (.int .i64 i2') := (by rw [hw4]; go_simp); have t0 : w4.cell? ⟨wr.heap.size, 0, none⟩ = some (.int .i64 k0') := (by rw [hw4]; go_simp); have t1 : w4.cell? ⟨wr.heap.size, 1, none⟩ = some (.int .i64 k1') := (by rw [hw4]; go_simp); have t2 : w4.cell? ⟨wr.heap.size, 2, none⟩ = some (.int .i64 k2') := (by rw [hw4]; go_simp))
        have hb4 : Below wr.heap.size wr w4 := by rw [hw4]; exact bel_
        have s4 : w4.heap.size = wr.heap.size + 2 := by rw [hw4]; simp
        have l4 : wr.heap.size < w4.heap.size := by omega
        have l5 : wr.heap.size + 1 < w4.heap.size := by omega
        have hg4 := Lib.hid (hgH.out.below hb4)
        have ho4 := Lib.hid (ownsRow_below hoH.out hb4)
        have hbw4 := Lib.hid (hbw.out.trans (hb4.mono hsw))
        have hs4 : w.heap.size + 2 ≤ w4.heap.size := by omega
        have hs9 := Lib.hid s4
        clear hw4 hb4 s4 c0 lp lG ci0 ci1 ci2 ck0 ck1 ck2 a1 a2 l0 hgH hoH hbw
        go_wp2_with fail
        refine wp_region_ord [(0, .q), (1, .q), (2, .q), (3, .q), (4, .q), (5, .q), (6, .q), (7, .q), (8, .q), (9, .g), (10, .q), (11, .g), (12, .b), (13, .q)] (by kernel_rfl) (by kernel_rfl) ?_
        simp only [pick, List.filterMap_cons, List.filterMap_nil, List.getElem?_toArray, List.getElem?_cons_zero, List.getElem?_cons_succ, Option.map_some]
        repeat (first | ((with_reducible refine wpD_p (fun K hK => ?_)); go_simp; refine hK _ ?_; clear hK K) | ((with_reducible refine wpD_q (fun K hK => ?_)); go_simp; (first | refine hK _ ?_ | (go_bits; refine hK _ ?_) | (go_bits; go_simp; refine hK _ ?_)); clear hK K))
        with_reducible refine wpD_g (fun K hK => ?_)
        go_simp
        refine (minusX_any _ _ _ _ _).mono ?_
        rintro e w5 ⟨x5, y5, rfl, hb5⟩
        refine ⟨_, rfl, hb5, hK _ _ ?_⟩
        clear hK K
        repeat (first | ((with_reducible refine wpD_p (fun K hK => ?_)); go_simp; refine hK _ ?_; clear hK K) | ((with_reducible refine wpD_q (fun K hK => ?_)); go_simp; (first | refine hK _ ?_ | (go_bits; refine hK _ ?_) | (go_bits; go_simp; refine hK _ ?_)); clear hK K))
        with_reducible refine wpD_g (fun K hK => ?_)
        go_simp
        refine ⟨Grew.of_alloc _, hK _ _ ?_⟩
        clear hK K
        have hb6 : Hid (Below w4.heap.size w4 (w5.alloc (Obj.cells #[.int .i64 i0', .int .i64 k0', .int .i64 x5, .int .i64 y5] 114))) := Lib.hid (by exact bel_)
        have hs5 : w4.heap.size ≤ w5.heap.size := hb5.size
        refine wpD_append_atI rfl _ _ 72 rfl (w.heap.size + 2) 114 i0 (.agg #[.int .i64 0, .int .i64 0, .int .i64 0, .int .i64 0]) 4 32 Tryz.underlying72 hi hz0 hz1 hz2 rfl (by decide) v c xo (by go_simp) (ownsRow_below ho4.out hb6.out) ⟨w5.heap.size, 0, none⟩ 1 1 [.int .i64 i0', .int .i64 k0', .int .i64 x5, .int .i64 y5] (by go_simp) rfl ?hnews (fun x hx => by simp at hx; rcases hx with rfl | rfl | rfl | rfl <;> rfl) (by unfold maxLen; omega) (by omega) (by simp; omega) ?_
        case hnews =>
          have := cell_four_newI w5 (.int .i64 i0') (.int .i64 k0') (.int .i64 x5) (.int .i64 y5) 114
          simpa using this
        intro v6 w6 hown hgrow hat
        obtain ⟨g6, c6, rfl⟩ := ownsRow_succ hown
        have hg6 := Lib.hid ((hg4.out.below hb6.out).otherRow (ownsRow_below ho4.out hb6.out) notInT_merge hgrow)
        have ho6 := Lib.hid hown
        have hbw6 := Lib.hid ((hbw4.out.trans (hb6.out.mono hs4)).grown hgrow (by simp; omega) (fun g e => (ho4.out.lt g e).1))
        have hs6 : w.heap.size + 2 ≤ w6.heap.size := by have := hbw6.out.size; omega
        have a1 := (hbw6.out.cell (p := ⟨w.heap.size, 1, none⟩) (by simp)).trans y01.out
        have l0 : w.heap.size < w6.heap.size := by omega
        clear hown hgrow hat hb6 hb5 hs5 o0 o1 o2 t0 t1 t2 hg4 ho4 hbw4 l4 l5 hs4
        repeat (first | ((with_reducible refine wpD_p (fun K hK => ?_)); go_simp; refine hK _ ?_; clear hK K) | ((with_reducible refine wpD_q (fun K hK => ?_)); go_simp; (first | refine hK _ ?_ | (go_bits; refine hK _ ?_) | (go_bits; go_simp; refine hK _ ?_)); clear hK K))
        with_reducible refine wpD_nil ?_
        go_wp2_with fail
        refine (put_any (w.heap.size + 2) p nn i k _ vB xc us M _ _ hg6.out hik hkn (by omega) hs6).mono ?_
        rintro e w7 ⟨⟨vv, rfl⟩, vG7, vB7, xc7, us7, hg7, hF7⟩
        have hg7H := Lib.hid hg7
        have hF7H := Lib.hid hF7
        clear hg7 hF7 hg6 a1
        go_wp2_with fail
        go_roundg (nn - 1)
        case measure => omega
        case rel => exact ⟨_, c + 1, nn - 1, rfl, by omega, rfl, Lib.hid ⟨_, _, _, _, _, hg7H.out, by rw [← leftM_some hfH.out]; exact hMH.out⟩, Lib.hid ⟨_, ownsRow_keepG ho6.out hF7H.out.k notInT_merge⟩, Lib.hid (hbw6.out.trans hF7H.out.b)⟩
    · obtain ⟨AG, cG, rfl⟩ := ownsRow_form hgH.out.G
      have c0 := hgH.out.c0
      have lp := hgH.out.lt
      have hL2 : L = nn := by rw [← hMH.out]; exact leftM_none hno
      have hL2H := Lib.hid hL2
      clear hL2
      go_wp2_with fail
      refine wp_region_ord [(0, .q), (1, .q), (2, .q), (3, .q), (4, .q), (5, .q), (6, .q), (7, .q)] (by kernel_rfl) (by kernel_rfl) ?_
      simp only [pick, List.filterMap_cons, List.filterMap_nil, List.getElem?_toArray, List.getElem?_cons_zero, List.getElem?_cons_succ, Option.map_some]
      repeat (first | ((with_reducible refine wpD_p (fun K hK => ?_)); go_simp; refine hK _ ?_; clear hK K) | ((with_reducible refine wpD_q (fun K hK => ?_)); go_simp; (first | refine hK _ ?_ | (go_bits; refine hK _ ?_) | (go_bits; go_simp; refine hK _ ?_)); clear hK K))
      with_reducible refine wpD_nil ?_
      go_wp2_with fail
      go_ret2
      rw [hLH.out, hL2H.out]
      exact ⟨_, rfl, hb0.out.trans ((hbw.out.mono (by omega)).trans (Below.drew (Below.refl _ _)))⟩
theorem validSet_ofI {gs : List Gl} {ts : List Ti} {xs : List Pl} (h : validAsmB gs ts xs = true) : validSetB gs ts = true := by
  unfold validAsmB at h
  simp only [Bool.and_eq_true] at h
  exact h.1
theorem codeH_one (gs : List Gl) (ts : List Ti) (xs : List Pl) (t : Int) : codeH gs ts [xs] t = if validAsmB gs ts xs = false then 1 else if inB t 1 16 = false then 2 else 0 := by
  unfold codeH
  have h2 : allB [xs].length (okL gs ts [xs]) = validAsmB gs ts xs := by
    simp [allB, okL, List.range_succ]
  rw [h2]
  cases hx : validAsmB gs ts xs
  · simp
  · rw [validSet_ofI hx]; simp
theorem lrow_one {w : World} {g : Nat} {A : Option Addr} {q ca : Nat} {xs : List Pl} (hg : g < w.heap.size) (h0 : w.cell? ⟨g, 0, none⟩ = some (.slice A q ca)) (hA : RdSl 3 RPl w A q xs) (hq : q ≤ 1073741824) : LRow w g [xs] := by
  refine ⟨hg, fun k l hk => ?_⟩
  rcases k with _ | k
  · simp at hk; subst hk; exact ⟨A, q, ca, h0, hA, hq⟩
  · simp at hk
def ProdRes (w : World) (r : Bool × Int) (e : Ending) (w' : World) : Prop := e = .returned (.tuple #[.bool r.1, .int .i64 r.2]) ∧ Below w.heap.size w w'
theorem ProdRes.of {w w' : World} {r : Bool × Int} {a : Bool} {b : Int} (h : (a, b) = r) (hb : Below w.heap.size w w') : ProdRes w r (.returned (.tuple #[.bool a, .int .i64 b])) w' := by
  subst h; exact ⟨rfl, hb⟩
set_option maxRecDepth 100000 in
set_option maxHeartbeats 4000000 in
theorem IsProducedByHands_any (G T A : Option Addr) (n cg m ct q ca : Nat) (gs : List Gl) (ts : List Ti) (xs : List Pl) (t : Int) (w : World) (hS : SA w G n T m A q gs ts xs) :
    Calls Tryz.prog 10 #[.agg #[.slice G n cg, .slice T m ct], .int .i64 t, .agg #[.slice A q ca]] w (ProdRes w (prodR gs ts xs t)) := by
  have hq1 := hS.q
  have hlq := hS.A.len
  have hSH := Lib.hid hS
  have hcd := codeH_one gs ts xs t
  clear hS
  cases hk : validAsmB gs ts xs
  · rw [hk, if_pos rfl] at hcd
    have hrH := Lib.hid (show ((false, 1) : Bool × Int) = prodR gs ts xs t by unfold prodR; rw [if_pos hk])
    have hcdH := Lib.hid hcd
    clear hk hcd
    go_enter Tryz.func10, Tryz.ntmps10
    go_wp2_with fail
    refine (handsCode_any (N := 1) (Ls := [xs]) (hSH.out.toTS.below (by exact bel_)) (lrow_one (g := w.heap.size + 1 + 1 + 1) (A := A) (q := q) (ca := ca) (by simp) (by go_simp) (hSH.out.A.below RPl.stable (by exact bel_)) hq1) rfl (by decide)).mono ?_
    rw [hcdH.out]
    rintro e w1 ⟨rfl, hb1⟩
    go_wp2_with fail
    go_ret2
    exact ProdRes.of hrH.out (by exact bel_)
  · have hV := Lib.hid (valid_of hk)
    cases hT : inB t 1 16
    · rw [hk, hT, if_neg (by decide), if_pos rfl] at hcd
      have hrH := Lib.hid (show ((false, 2) : Bool × Int) = prodR gs ts xs t by unfold prodR; rw [if_neg (by rw [hk]; decide), if_pos hT])
      have hcdH := Lib.hid hcd
      clear hk hcd hT
      go_enter Tryz.func10, Tryz.ntmps10
      go_wp2_with fail
      refine (handsCode_any (N := 1) (Ls := [xs]) (hSH.out.toTS.below (by exact bel_)) (lrow_one (g := w.heap.size + 1 + 1 + 1) (A := A) (q := q) (ca := ca) (by simp) (by go_simp) (hSH.out.A.below RPl.stable (by exact bel_)) hq1) rfl (by decide)).mono ?_
      rw [hcdH.out]
      rintro e w1 ⟨rfl, hb1⟩
      go_wp2_with fail
      go_ret2
      exact ProdRes.of hrH.out (by exact bel_)
    · rw [hk, hT, if_neg (by decide), if_neg (by decide)] at hcd
      have hcdH := Lib.hid hcd
      by_cases hq0 : q = 0
      · have hrH := Lib.hid (show ((false, 3) : Bool × Int) = prodR gs ts xs t by unfold prodR; rw [if_neg (by rw [hk]; decide), if_neg (by rw [hT]; decide), if_pos (by omega)])
        clear hk hcd hT
        subst hq0
        go_enter Tryz.func10, Tryz.ntmps10
        go_wp2_with fail
        refine (handsCode_any (N := 1) (Ls := [xs]) (hSH.out.toTS.below (by exact bel_)) (lrow_one (g := w.heap.size + 1 + 1 + 1) (A := A) (q := 0) (ca := ca) (by simp) (by go_simp) (hSH.out.A.below RPl.stable (by exact bel_)) hq1) rfl (by decide)).mono ?_
        rw [hcdH.out]
        rintro e w1 ⟨rfl, hb1⟩
        obtain ⟨chb1, fhb1, shb1, thb1⟩ := bcell hb1
        have s1 := shb1 (w.heap.size + 1) (by go_simp)
        go_wp2_with fail
        go_ret2
        exact ProdRes.of hrH.out (by exact bel_)
      · have hrH := Lib.hid (show ((decide (leftE gs ts xs t = 1), 0) : Bool × Int) = prodR gs ts xs t by unfold prodR; rw [if_neg (by rw [hk]; decide), if_neg (by rw [hT]; decide), if_neg (by omega)])
        have hq0b : ((q : Int) == 0) = false := by simp; omega
        have hq0c : ¬ (q : Int) = 0 := by omega
        clear hk hcd hT
        go_enter Tryz.func10, Tryz.ntmps10
        go_wp2_with fail
        refine (handsCode_any (N := 1) (Ls := [xs]) (hSH.out.toTS.below (by exact bel_)) (lrow_one (g := w.heap.size + 1 + 1 + 1) (A := A) (q := q) (ca := ca) (by simp) (by go_simp) (hSH.out.A.below RPl.stable (by exact bel_)) hq1) rfl (by decide)).mono ?_
        rw [hcdH.out]
        rintro e w1 ⟨rfl, hb1⟩
        obtain ⟨chb1, fhb1, shb1, thb1⟩ := bcell hb1
        have s1 := shb1 (w.heap.size + 1) (by go_simp)
        have s2 := shb1 (w.heap.size + 1 + 1) (by go_simp)
        have hb10 := Lib.hid (show Below w.heap.size w w1 by exact bel_)
        go_wp2_with fail
        refine (merges_any G T A n cg m ct q ca gs ts xs t _ (hSH.out.below hb10.out) hV.out).mono ?_
        rintro e w2 ⟨v, rfl, hb2⟩
        obtain ⟨L, hL⟩ : ∃ L, leftE gs ts xs t = L := ⟨_, rfl⟩
        rw [hL] at hrH
        have hLH := Lib.hid hL
        have hb20 := Lib.hid (hb10.out.trans (hb2.mono hb10.out.size))
        rw [hL]
        clear hL hb1 hb2 chb1 fhb1 shb1 thb1
        by_cases h1 : L = 1
        · subst h1
          go_wp2_with fail
          go_ret2
          exact ProdRes.of hrH.out hb20.out
        · have h1b : ((L : Int) == 1) = false := by simp; omega
          have h1c : ¬ (L : Int) = 1 := by omega
          have hrH2 := Lib.hid (show ((false, 0) : Bool × Int) = prodR gs ts xs t by rw [← hrH.out, decide_eq_false h1])
          go_wp2_with fail
          go_ret2
          exact ProdRes.of hrH2.out hb20.out
end Go.Proofs.YthieodccakphiaaGreat
/- Walks: IsProducedByHands of the reference. -/


namespace Go.Proofs.YthieodccakphiaaGreat
open Go.RowKit Go.Shelf
attribute [local go_sem] BelowBy.cell BelowBy.cell_drew stillUpon givesUpon BelowBy.cell_drew2 BelowBy.cell_drew3

set_option maxRecDepth 100000 in
set_option maxHeartbeats 4000000 in
theorem sIsProducedByHands_any (G T A : Option Addr) (n cg m ct q ca : Nat) (gs : List Gl) (ts : List Ti) (xs : List Pl) (t : Int) (w : World) (hS : SA w G n T m A q gs ts xs) :
    Calls Tryz.prog 7 #[.agg #[.slice G n cg, .slice T m ct], .int .i64 t, .agg #[.slice A q ca]] w (ProdRes w (prodR gs ts xs t)) := by
  have h0 := Lib.hid (hS.box cg ct ca)
  have hR : prodR gs ts xs t = if oneR gs ts xs t = 0 then (decide (leftE gs ts xs t = 1), 0) else (false, oneR gs ts xs t) := by
    unfold prodR oneR
    split
    · rfl
    · split
      · rfl
      · split <;> rfl
  have hV : oneR gs ts xs t = 0 → Valid gs ts xs := fun h => by
    cases hv : validAsmB gs ts xs
    · unfold oneR at h
      rw [if_pos hv] at h
      cases h
    · exact valid_of hv
  have hVH := Lib.hid hV
  clear hS hV
  obtain ⟨c, hc⟩ : ∃ c, oneR gs ts xs t = c := ⟨_, rfl⟩
  rw [hc] at hR hVH
  have hcH := Lib.hid hc
  clear hc
  by_cases h1 : c = 0
  · subst h1
    rw [if_pos rfl] at hR
    have hRH := Lib.hid hR
    clear hR
    go_enter Tryz.func7, Tryz.ntmps7
    go_wp2_with fail
    refine (l29One_any _ _ gs ts xs t _ h0.out).mono ?_
    rw [hcH.out]
    rintro e w1 ⟨rfl, hb1⟩
    have h1 := Lib.hid (h0.out.below hb1)
    have hb10 := Lib.hid (show Below w.heap.size w w1 by exact bel_)
    clear hb1
    go_wp2_with fail
    refine (l29Groups_any _ _ gs ts xs t _ h1.out (hVH.out (by trivial))).mono ?_
    rintro e w2 ⟨A2, c2, vm, rfl, hb2⟩
    obtain ⟨L, hL⟩ : ∃ L, leftE gs ts xs t = L := ⟨_, rfl⟩
    rw [hL] at hRH
    rw [hL]
    have hb20 := Lib.hid (hb10.out.trans (hb2.mono hb10.out.size))
    clear hL hb2
    by_cases h2 : L = 1
    · subst h2
      go_wp2_with fail
      go_ret2
      exact ProdRes.of hRH.out.symm hb20.out
    · have h1b : ((L : Int) == 1) = false := by simp; omega
      have h1c : ¬ (L : Int) = 1 := by omega
      have hrH2 := Lib.hid (show ((false, 0) : Bool × Int) = prodR gs ts xs t by rw [hRH.out, decide_eq_false h2])
      go_wp2_with fail
      go_ret2
      exact ProdRes.of hrH2.out hb20.out
  · rw [if_neg h1] at hR
    have hRH := Lib.hid hR
    clear hR
    go_enter Tryz.func7, Tryz.ntmps7
    go_wp2_with fail
    refine (l29One_any _ _ gs ts xs t _ h0.out).mono ?_
    rw [hcH.out]
    rintro e w1 ⟨rfl, hb1⟩
    have hb10 := Lib.hid (show Below w.heap.size w w1 by exact bel_)
    clear hb1
    go_wp2_with fail
    go_ret2
    exact ProdRes.of hRH.out.symm hb10.out
end Go.Proofs.YthieodccakphiaaGreat
