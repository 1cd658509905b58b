/- ReadType of both sides, and FnExactReadType's contract. No condition. -/
import Derived.Test.YtkefgpmnimpcdaaGreatDoorRdT
import Derived.Test.YtkefgpmnimpcdaaGreatDoorFsh
import Derived.Test.YtkefgpmnimpcdaaGreatDoorFam
set_option linter.unusedVariables false
set_option linter.unusedSimpArgs false
namespace Go.Proofs.YtkefgpmnimpcdaaGreatDoor.Abs
open Go
set_option maxHeartbeats 4000000
set_option maxRecDepth 100000
/-- A text's reader. -/
def rdOf (s : Bs) : Rd := ⟨(toks s).1, 0, s.length, (toks s).2.1, (toks s).2.2⟩
theorem rdOf_ok (s : Bs) : okR (rdOf s) := ⟨toks_len s, by unfold rdOf; simp⟩
theorem c_readerOf (s : Bs) (hs : s.length ≤ 1048576) (fK : List (List AC)) (Kr : List (List (List AC))) (hK : (fK :: Kr).all (fun f => f.all (fun c => c.all plainA)) = true) :
    Ct Tryz.prog 60 [.str s] (fK :: Kr) (.ptr 0 fK.length 0) ((fK ++ [rdC (rdOf s)]) :: Kr) := by
  have hT := fun K => c_TokensOf s hs K
  refine ct_bodyE 2 { n0 := 5, ex := [], tk := [] } Tryz.func60 rfl rfl (by kernel_rfl) (by kernel_rfl) (by rfl) rfl hK (by unfold rdC; rfl) rfl ?_
  unfold rdC rdOf
  generalize toks s = z at *
  obtain ⟨ts, c, a⟩ := z
  simp -implicitDefEqProofs [Tryz.f60]
  refine callK_of (hT _) ?_
  simp -implicitDefEqProofs
  intro _
  exact ⟨[[.int .i64 c, .int .i64 a]], rfl, by rw [share_tk]; rfl⟩
theorem c_l08New (s : Bs) (hs : s.length ≤ 1048576) (fK : List (List AC)) (Kr : List (List (List AC))) (hK : (fK :: Kr).all (fun f => f.all (fun c => c.all plainA)) = true) :
    Ct Tryz.prog 57 [.str s] (fK :: Kr) (.ptr 0 fK.length 0) ((fK ++ [rdC (rdOf s)]) :: Kr) := by
  have hT := fun K => c_TokensOfS s hs K
  refine ct_bodyE 2 { n0 := 5, ex := [], tk := [] } Tryz.func57 rfl rfl (by kernel_rfl) (by kernel_rfl) (by rfl) rfl hK (by unfold rdC; rfl) rfl ?_
  unfold rdC rdOf
  generalize toks s = z at *
  obtain ⟨ts, c, a⟩ := z
  simp -implicitDefEqProofs [Tryz.f57]
  refine callK_of (hT _) ?_
  simp -implicitDefEqProofs
  intro _
  exact ⟨[[.int .i64 c, .int .i64 a]], rfl, rfl⟩
/-- The type that a text is, or what is wrong with it. -/
def readT (s : Bs) : (Bs × Bs) × Int × Int :=
  let q := typR (rdOf s)
  if (closeR q.2).code = 0 then (q.1, 0, 0) else (([], []), (closeR q.2).code, (closeR q.2).fat)
theorem closeR_0 {r : Rd} (h : (closeR r).code = 0) : r.code = 0 := by
  unfold closeR at h
  split at h
  · exact h
  · exact absurd h (failR_code (by decide))
theorem readT_S (s : Bs) : readT s = if (closeR (typRS (rdOf s)).2).code = 0 then ((typRS (rdOf s)).1, 0, 0) else (([], []), (closeR (typRS (rdOf s)).2).code, (closeR (typRS (rdOf s)).2).fat) := by
  have h := typR_same (rdOf s)
  unfold readT
  simp only
  rw [h.1]
  split
  · next hc => rw [h.2 (closeR_0 hc)]
  · rfl
theorem typL_ok : ∀ (n : Nat) (r : Rd) (k : Nat) (nm ws : Bs), okR r → okR (typL n r k nm ws).2 := by
  intro n; induction n with
  | zero => intro r k nm ws h; exact h
  | succ n ih =>
    intro r k nm ws h
    rw [typL]
    split
    · exact h
    · split
      · next h1 =>
        split
        · exact failR_ok h
        · refine ih _ _ _ _ (nextR_ok h (isS_lt (s := [33]) ?_).2)
          rw [Bool.and_eq_true] at h1; exact h1.1
      · split
        · exact h
        · split
          · next h1 =>
            split
            · exact failR_ok h
            · exact ih _ _ _ _ (nextR_ok h (isS_lt h1).2)
          · exact failR_ok h
theorem openL_ok : ∀ (n : Nat) (r : Rd) (k : Nat), okR r → okR (openL n r k).2.1 := by
  intro n; induction n with
  | zero => intro r k h; exact h
  | succ n ih =>
    intro r k h
    rw [openL]
    split
    · next h1 =>
      split
      · exact failR_ok h
      · exact ih _ _ (nextR_ok h (isS_lt h1).2)
    · exact h
theorem typR_ok {r : Rd} (h : okR r) : okR (typR r).2 := by
  have ho := openL_ok (r.t.length + 1) r 0 h
  unfold typR
  split
  · next r1 k he => rw [he] at ho; exact ho
  · next r1 k he => rw [he] at ho; exact typL_ok _ _ _ _ _ (nameR_ok ho).1
theorem wDo_tab2 {P : Program} {fi : FI} {T : List (Nat × AC)} {o : Oper} {d : Option Nat} {op : Go.Op} {st : St} {Kx : List (List (List AC))} {k : AC → St → Prop} (loc : List (Nat × AC)) (hl : T.filter (fun x => (reads o).elem x.1) = loc) (h : wDo P fi true none d op { env := st.env, loc := loc, K := Kx } k) : wDo P fi true none d op { env := (tabSt T o st).env, loc := (tabSt T o st).loc, K := Kx } k := by
  subst hl; exact h
def bx (nm ws : Bs) (c a : Int) : List (List AC) := [[.str nm, .str ws], [.int .i64 c, .int .i64 a]]
theorem c_ReadType0 (s : Bs) (hs : s.length ≤ 1048576) : Ct Tryz.prog 17 [.str s] [] (.tup [.agg [.str (readT s).1.1, .str (readT s).1.2], .agg [.int .i64 (readT s).2.1, .int .i64 (readT s).2.2]]) [] := by
  have hro := rdOf_ok s
  have cR := c_readerOf s hs (bx [] [] 0 0) [] rfl
  have cT := c_typ [] (bx [] [] 0 0) [] [] (rdOf s) hro
  have hto := typR_ok hro
  generalize hR : readT s = R
  unfold readT at hR
  generalize rdOf s = r0 at *
  have cC := fun nm ws => c_close [] (bx [] [] 0 0) (typR r0).2 [[.str nm, .str ws]] [] hto
  have cB := fun nm ws => c_bad [] (bx [] [] 0 0) (closeR (typR r0).2) [[.str nm, .str ws]] []
  generalize typR r0 = q at *
  obtain ⟨⟨nm, ws⟩, r1⟩ := q
  have cC := cC nm ws
  have cB := cB nm ws
  simp only at hR cT cC cB
  generalize closeR r1 = r2 at *
  unfold KD bx at *
  unfold rdC at cR
  simp only [List.nil_append, List.cons_append] at cT cC cB cR
  refine ct_fn { n0 := 6, ex := [], tk := [7, 9, 11, 13, 14, 18, 19, 20] } Tryz.func17 rfl (by kernel_rfl) (by kernel_rfl) rfl ?_
  simp -implicitDefEqProofs [Tryz.f17]
  refine callK_of cR ?_
  simp -implicitDefEqProofs
  refine callK_of cT ?_
  simp -implicitDefEqProofs
  refine callK_of cC ?_
  simp -implicitDefEqProofs
  refine callK_of cB ?_
  by_cases hc : r2.code = 0
  · rw [if_pos hc] at hR
    subst hR
    simp -implicitDefEqProofs (maxDischargeDepth := 6) [hc, AC.le_agg]
  · rw [if_neg hc] at hR
    subst hR
    simp -implicitDefEqProofs [hc]
    refine wRun_tab2 [some 14, some 15, some 16, some 17, some 18, none, none] [.val 14 (.agg [.str [], .str []]), .val 15 (.ptr 0 2 0), .val 16 (.ptr 0 2 0), .val 17 (.ptr 0 2 3), .val 18 (.agg [.int .i64 r2.code, .int .i64 r2.fat]),
      .eff (fun K => setBox K 0 0 [.str [], .str []]), .eff (fun K => setBox K 0 1 [.int .i64 r2.code, .int .i64 r2.fat])] rfl rfl (by decide +kernel) rfl ?_
    simp only [wTab2]
    refine ⟨?_, ?_, ?_, ?_, ?_, ?_, ?_, ?_⟩
    · intro D hD
      have hD : D 0 = false := hD
      cases h5 : D 5 <;> cases h6 : D 6 <;> (first | (exfalso; revert hD; simp [h5, h6]; done) | (refine wDo_tab2 [] ?_ ?_; rfl; simp -implicitDefEqProofs [kdE, h5, h6, setBox]))
    · intro D hD
      have hD : D 1 = false := hD
      cases h5 : D 5 <;> cases h6 : D 6 <;> (first | (exfalso; revert hD; simp [h5, h6]; done) | (refine wDo_tab2 [] ?_ ?_; rfl; simp -implicitDefEqProofs [kdE, h5, h6, setBox]))
    · intro D hD
      have hD : D 2 = false := hD
      cases h5 : D 5 <;> cases h6 : D 6 <;> (first | (exfalso; revert hD; simp [h5, h6]; done) | (refine wDo_tab2 [(15, .ptr 0 2 0)] ?_ ?_; rfl; simp -implicitDefEqProofs [kdE, h5, h6, setBox]))
    · intro D hD
      have hD : D 3 = false := hD
      cases h5 : D 5 <;> cases h6 : D 6 <;> (first | (exfalso; revert hD; simp [h5, h6]; done) | (refine wDo_tab2 [(16, .ptr 0 2 0)] ?_ ?_; rfl; simp -implicitDefEqProofs [kdE, h5, h6, setBox]))
    · intro D hD
      have hD : D 4 = false := hD
      cases h5 : D 5 <;> cases h6 : D 6 <;> (first | (exfalso; revert hD; simp [h5, h6]; done) | (refine wDo_tab2 [(17, .ptr 0 2 3)] ?_ ?_; rfl; simp -implicitDefEqProofs [kdE, h5, h6, setBox]))
    · intro D hD
      have hD : D 5 = false := hD
      cases h5 : D 5 <;> cases h6 : D 6 <;> (first | (exfalso; revert hD; simp [h5, h6]; done) | (refine wDo_tab2 [(14, .agg [.str [], .str []])] ?_ ?_; rfl; simp -implicitDefEqProofs [kdE, h5, h6, setBox]))
    · intro D hD
      have hD : D 6 = false := hD
      cases h5 : D 5 <;> cases h6 : D 6 <;> (first | (exfalso; revert hD; simp [h5, h6]; done) | (refine wDo_tab2 [(18, .agg [.int .i64 r2.code, .int .i64 r2.fat])] ?_ ?_; rfl; simp -implicitDefEqProofs [kdE, h5, h6, setBox]))
    · simp -implicitDefEqProofs (maxDischargeDepth := 6) [valsE, kdE, setBox, AC.le_agg]
theorem c_ReadTypeS0 (s : Bs) (hs : s.length ≤ 1048576) : Ct Tryz.prog 16 [.str s] [] (.tup [.agg [.str (readT s).1.1, .str (readT s).1.2], .agg [.int .i64 (readT s).2.1, .int .i64 (readT s).2.2]]) [] := by
  have hro := rdOf_ok s
  have cR := c_l08New s hs (bx [] [] 0 0) [] rfl
  have cT := c_l09Type [] (bx [] [] 0 0) [] [] (rdOf s) hro
  have hto := typR_ok hro
  rw [← (typR_same _).1] at hto
  generalize hR : readT s = R
  rw [readT_S] at hR
  generalize rdOf s = r0 at *
  have cC := fun nm ws => c_l08End [] (bx [] [] 0 0) (typRS r0).2 [[.str nm, .str ws]] [] hto
  generalize typRS r0 = q at *
  obtain ⟨⟨nm, ws⟩, r1⟩ := q
  have cC := cC nm ws
  simp only at hR cT cC
  generalize closeR r1 = r2 at *
  unfold KD bx at *
  unfold rdC at cR
  simp only [List.nil_append, List.cons_append] at cT cC cR
  refine ct_fn { n0 := 6, ex := [], tk := [7, 9, 11, 18, 22, 23, 24] } Tryz.func16 rfl (by kernel_rfl) (by kernel_rfl) rfl ?_
  simp -implicitDefEqProofs [Tryz.f16]
  refine callK_of cR ?_
  simp -implicitDefEqProofs
  refine callK_of cT ?_
  simp -implicitDefEqProofs
  refine callK_of cC ?_
  simp -implicitDefEqProofs
  by_cases hc : r2.code = 0
  · rw [if_pos hc] at hR
    subst hR
    simp -implicitDefEqProofs (maxDischargeDepth := 6) [hc, AC.le_agg]
  · rw [if_neg hc] at hR
    subst hR
    simp -implicitDefEqProofs [hc]
    refine wRun_tab2 [some 18, some 19, some 20, some 21, some 22, none, none] [.val 18 (.agg [.str [], .str []]), .val 19 (.ptr 0 2 0), .val 20 (.ptr 0 2 0), .val 21 (.ptr 0 2 3), .val 22 (.agg [.int .i64 r2.code, .int .i64 r2.fat]),
      .eff (fun K => setBox K 0 0 [.str [], .str []]), .eff (fun K => setBox K 0 1 [.int .i64 r2.code, .int .i64 r2.fat])] rfl rfl (by decide +kernel) rfl ?_
    simp only [wTab2]
    refine ⟨?_, ?_, ?_, ?_, ?_, ?_, ?_, ?_⟩
    · intro D hD
      have hD : D 0 = false := hD
      cases h5 : D 5 <;> cases h6 : D 6 <;> (first | (exfalso; revert hD; simp [h5, h6]; done) | (refine wDo_tab2 [] ?_ ?_; rfl; simp -implicitDefEqProofs [kdE, h5, h6, setBox]))
    · intro D hD
      have hD : D 1 = false := hD
      cases h5 : D 5 <;> cases h6 : D 6 <;> (first | (exfalso; revert hD; simp [h5, h6]; done) | (refine wDo_tab2 [] ?_ ?_; rfl; simp -implicitDefEqProofs [kdE, h5, h6, setBox]))
    · intro D hD
      have hD : D 2 = false := hD
      cases h5 : D 5 <;> cases h6 : D 6 <;> (first | (exfalso; revert hD; simp [h5, h6]; done) | (refine wDo_tab2 [(19, .ptr 0 2 0)] ?_ ?_; rfl; simp -implicitDefEqProofs [kdE, h5, h6, setBox]))
    · intro D hD
      have hD : D 3 = false := hD
      cases h5 : D 5 <;> cases h6 : D 6 <;> (first | (exfalso; revert hD; simp [h5, h6]; done) | (refine wDo_tab2 [(20, .ptr 0 2 0)] ?_ ?_; rfl; simp -implicitDefEqProofs [kdE, h5, h6, setBox]))
    · intro D hD
      have hD : D 4 = false := hD
      cases h5 : D 5 <;> cases h6 : D 6 <;> (first | (exfalso; revert hD; simp [h5, h6]; done) | (refine wDo_tab2 [(21, .ptr 0 2 3)] ?_ ?_; rfl; simp -implicitDefEqProofs [kdE, h5, h6, setBox]))
    · intro D hD
      have hD : D 5 = false := hD
      cases h5 : D 5 <;> cases h6 : D 6 <;> (first | (exfalso; revert hD; simp [h5, h6]; done) | (refine wDo_tab2 [(18, .agg [.str [], .str []])] ?_ ?_; rfl; simp -implicitDefEqProofs [kdE, h5, h6, setBox]))
    · intro D hD
      have hD : D 6 = false := hD
      cases h5 : D 5 <;> cases h6 : D 6 <;> (first | (exfalso; revert hD; simp [h5, h6]; done) | (refine wDo_tab2 [(22, .agg [.int .i64 r2.code, .int .i64 r2.fat])] ?_ ?_; rfl; simp -implicitDefEqProofs [kdE, h5, h6, setBox]))
    · simp -implicitDefEqProofs (maxDischargeDepth := 6) [valsE, kdE, setBox, AC.le_agg]
theorem c_ReadType (s : Bs) (hs : s.length ≤ 1048576) (K) : Ct Tryz.prog 17 [.str s] K (.tup [.agg [.str (readT s).1.1, .str (readT s).1.2], .agg [.int .i64 (readT s).2.1, .int .i64 (readT s).2.2]]) K := by
  have := ct_fresh (by rfl) (by simp [closed, closedL]) (c_ReadType0 s hs) K
  simpa [toEx, toExL] using this
theorem c_ReadTypeS (s : Bs) (hs : s.length ≤ 1048576) (K) : Ct Tryz.prog 16 [.str s] K (.tup [.agg [.str (readT s).1.1, .str (readT s).1.2], .agg [.int .i64 (readT s).2.1, .int .i64 (readT s).2.2]]) K := by
  have := ct_fresh (by rfl) (by simp [closed, closedL]) (c_ReadTypeS0 s hs) K
  simpa [toEx, toExL] using this
theorem c_law (a0 : Bs) : Ct Tryz.prog 4 [.str a0] [] (.bool true) [] := by
  refine ct_fn { n0 := 7, ex := [], tk := [12, 17, 22, 27] } Tryz.func4 rfl (by kernel_rfl) (by kernel_rfl) rfl ?_
  simp -implicitDefEqProofs [Tryz.f4]
  intro hm hl
  have hI := fun K => c_ReadType a0 (by omega) K
  have hS := fun K => c_ReadTypeS a0 (by omega) K
  generalize readT a0 = z at *
  obtain ⟨⟨nm, ws⟩, c, a⟩ := z
  have hT : ∀ K, Ct Tryz.prog 18 [.agg [.str nm, .str ws], .agg [.str nm, .str ws]] K (.bool true) K := fun K => by
    have := c_eqType ⟨nm, ws⟩ ⟨nm, ws⟩ K
    rw [eqB_self] at this
    simpa [tType, encL, encT] using this
  have hF : ∀ K, Ct Tryz.prog 13 [.agg [.int .i64 c, .int .i64 a], .agg [.int .i64 c, .int .i64 a]] K (.bool true) K := fun K => by
    have := c_eqFault ⟨c, a⟩ ⟨c, a⟩ K
    rw [eqB_self] at this
    simpa [tFault, encL, encT] using this
  refine callK_of (hS _) ?_
  simp -implicitDefEqProofs
  refine callK_of (hI _) ?_
  simp -implicitDefEqProofs
  refine callK_of (hT _) ?_
  simp -implicitDefEqProofs
  refine callK_still (fun _ => hF _) ?_
  simp -implicitDefEqProofs
end Go.Proofs.YtkefgpmnimpcdaaGreatDoor.Abs
