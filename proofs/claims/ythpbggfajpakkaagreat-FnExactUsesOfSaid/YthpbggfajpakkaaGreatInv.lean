/- PRINTED by inv.py: what typed cells are. No condition. -/
import Derived.Test.YthpbggfajpakkaaGreatTyp
import Derived.Test.YthpbggfajpakkaaGreatFacts
set_option linter.unusedVariables false
set_option linter.unusedSimpArgs false
namespace Go.Proofs.YthpbggfajpakkaaGreat.Abs
open Go
theorem inv_StrS {cells : List AC} (h : Typed Tryz.prog 27 cells) : ∃ xs : List Bs, cells = [.sl .no xs.length (encR .no (tStrS xs))] := by
  obtain ⟨n, cs, rfl, h1, h2⟩ := typed_slice td27 h
  rw [sz9] at h1 h2
  obtain ⟨xs, h3, h4⟩ := list_of (tr := fun s : Bs => [Tr.str s]) h1 (fun i hi => by
    obtain ⟨s, hs, _⟩ := typed_str td9 (h2 i hi)
    exact ⟨s, by rw [hs]; simp [encL, encT]⟩)
  exact ⟨xs, by rw [h3, h4, tStrS_map]⟩
theorem inv_Type {cells : List AC} (h : Typed Tryz.prog 31 cells) : ∃ x : DType, cells = encL .no (tType x) := by
  obtain ⟨hl, hf⟩ := typed_fields td31 h
  rw [sz31] at hl
  obtain ⟨c0, r0, rfl, hl0⟩ := len_cons hl
  obtain ⟨c1, r1, rfl, hl1⟩ := len_cons hl0
  obtain rfl := List.eq_nil_of_length_eq_zero hl1
  have g0 := hf (0, 1, 9) (by simp)
  simp only [List.drop_succ_cons, List.drop_zero, List.take_succ_cons, List.take_zero] at g0
  obtain ⟨x0, e0, _⟩ := typed_str td9 g0
  cases e0
  have g1 := hf (1, 1, 9) (by simp)
  simp only [List.drop_succ_cons, List.drop_zero, List.take_succ_cons, List.take_zero] at g1
  obtain ⟨x1, e1, _⟩ := typed_str td9 g1
  cases e1
  refine ⟨⟨x0, x1⟩, ?_⟩
  simp only [tType, encL_app, encL, encT, Md.ow_no, tStrS_len, tIntS_len]
theorem inv_Value_rec : ∀ N : Nat, (∀ cells, SizeOf.sizeOf cells < N → Typed Tryz.prog 29 cells → ∃ x : DValue, cells = encL .no (tValue x)) ∧ (∀ cells, SizeOf.sizeOf cells < N → Typed Tryz.prog 26 cells → ∃ xs : List DValue, cells = [.sl .no xs.length (encR .no (tValueS xs))]) := by
  intro N
  induction N with
  | zero => exact ⟨fun _ h => by omega, fun _ h => by omega⟩
  | succ N ih =>
  refine ⟨fun cells hN h => ?_, fun cells hN h => ?_⟩
  · obtain ⟨hl, hf⟩ := typed_fields td29 h
    rw [sz29] at hl
    obtain ⟨c0, r0, rfl, hl0⟩ := len_cons hl
    obtain ⟨c1, r1, rfl, hl1⟩ := len_cons hl0
    obtain ⟨c2, r2, rfl, hl2⟩ := len_cons hl1
    obtain ⟨c3, r3, rfl, hl3⟩ := len_cons hl2
    obtain rfl := List.eq_nil_of_length_eq_zero hl3
    have g0 := hf (0, 1, 3) (by simp)
    simp only [List.drop_succ_cons, List.drop_zero, List.take_succ_cons, List.take_zero] at g0
    obtain ⟨x0, e0, _⟩ := typed_int td3 g0
    cases e0
    have g1 := hf (1, 1, 9) (by simp)
    simp only [List.drop_succ_cons, List.drop_zero, List.take_succ_cons, List.take_zero] at g1
    obtain ⟨x1, e1, _⟩ := typed_str td9 g1
    cases e1
    have g2 := hf (2, 1, 26) (by simp)
    simp only [List.drop_succ_cons, List.drop_zero, List.take_succ_cons, List.take_zero] at g2
    obtain ⟨x2, e2⟩ := ih.2 _ (by simp at hN ⊢; omega) g2
    cases e2
    have g3 := hf (3, 1, 27) (by simp)
    simp only [List.drop_succ_cons, List.drop_zero, List.take_succ_cons, List.take_zero] at g3
    obtain ⟨x3, e3⟩ := inv_StrS g3
    cases e3
    refine ⟨⟨x0, x1, x2, x3⟩, ?_⟩
    simp only [tValue, encL_app, encL, encT, Md.ow_no, tStrS_len, tIntS_len, tValueS_len]
  · obtain ⟨n, cs, rfl, h1, h2⟩ := typed_slice td26 h
    rw [sz29] at h1 h2
    obtain ⟨xs, h3, h4⟩ := list_of (tr := tValue) h1 (fun i hi => ih.1 _ (by have := szo_take (l := cs.drop (i * 4)) 4; have := szo_drop (l := cs) (i * 4); simp at hN; omega) (h2 i hi))
    exact ⟨xs, by rw [h3, h4, tValueS_map]⟩
theorem inv_Value {cells : List AC} (h : Typed Tryz.prog 29 cells) : ∃ x : DValue, cells = encL .no (tValue x) := (inv_Value_rec _).1 _ (Nat.lt_succ_self _) h
theorem inv_ValueS {cells : List AC} (h : Typed Tryz.prog 26 cells) : ∃ xs : List DValue, cells = [.sl .no xs.length (encR .no (tValueS xs))] := (inv_Value_rec _).2 _ (Nat.lt_succ_self _) h
theorem inv_Arg {cells : List AC} (h : Typed Tryz.prog 249 cells) : ∃ x : DArg, cells = encL .no (tArg x) := by
  obtain ⟨hl, hf⟩ := typed_fields td249 h
  rw [sz249] at hl
  obtain ⟨c0, r0, rfl, hl0⟩ := len_cons hl
  obtain ⟨c1, r1, rfl, hl1⟩ := len_cons hl0
  obtain ⟨c2, r2, rfl, hl2⟩ := len_cons hl1
  obtain ⟨c3, r3, rfl, hl3⟩ := len_cons hl2
  obtain ⟨c4, r4, rfl, hl4⟩ := len_cons hl3
  obtain rfl := List.eq_nil_of_length_eq_zero hl4
  have g0 := hf (0, 1, 9) (by simp)
  simp only [List.drop_succ_cons, List.drop_zero, List.take_succ_cons, List.take_zero] at g0
  obtain ⟨x0, e0, _⟩ := typed_str td9 g0
  cases e0
  have g1 := hf (1, 4, 29) (by simp)
  simp only [List.drop_succ_cons, List.drop_zero, List.take_succ_cons, List.take_zero] at g1
  obtain ⟨x1, e1⟩ := inv_Value g1
  refine ⟨⟨x0, x1⟩, ?_⟩
  simp only [tArg, encL_app, encL, encT, Md.ow_no, tStrS_len, tIntS_len]
  rw [← e1]
  try rfl
  try simp
theorem inv_ArgS {cells : List AC} (h : Typed Tryz.prog 127 cells) : ∃ xs : List DArg, cells = [.sl .no xs.length (encR .no (tArgS xs))] := by
  obtain ⟨n, cs, rfl, h1, h2⟩ := typed_slice td127 h
  rw [sz249] at h1 h2
  obtain ⟨xs, h3, h4⟩ := list_of (tr := tArg) h1 (fun i hi => inv_Arg (h2 i hi))
  exact ⟨xs, by rw [h3, h4, tArgS_map]⟩
theorem inv_Dir {cells : List AC} (h : Typed Tryz.prog 252 cells) : ∃ x : DDir, cells = encL .no (tDir x) := by
  obtain ⟨hl, hf⟩ := typed_fields td252 h
  rw [sz252] at hl
  obtain ⟨c0, r0, rfl, hl0⟩ := len_cons hl
  obtain ⟨c1, r1, rfl, hl1⟩ := len_cons hl0
  obtain rfl := List.eq_nil_of_length_eq_zero hl1
  have g0 := hf (0, 1, 9) (by simp)
  simp only [List.drop_succ_cons, List.drop_zero, List.take_succ_cons, List.take_zero] at g0
  obtain ⟨x0, e0, _⟩ := typed_str td9 g0
  cases e0
  have g1 := hf (1, 1, 127) (by simp)
  simp only [List.drop_succ_cons, List.drop_zero, List.take_succ_cons, List.take_zero] at g1
  obtain ⟨x1, e1⟩ := inv_ArgS g1
  cases e1
  refine ⟨⟨x0, x1⟩, ?_⟩
  simp only [tDir, encL_app, encL, encT, Md.ow_no, tStrS_len, tIntS_len, tArgS_len]
theorem inv_DirS {cells : List AC} (h : Typed Tryz.prog 128 cells) : ∃ xs : List DDir, cells = [.sl .no xs.length (encR .no (tDirS xs))] := by
  obtain ⟨n, cs, rfl, h1, h2⟩ := typed_slice td128 h
  rw [sz252] at h1 h2
  obtain ⟨xs, h3, h4⟩ := list_of (tr := tDir) h1 (fun i hi => inv_Dir (h2 i hi))
  exact ⟨xs, by rw [h3, h4, tDirS_map]⟩
theorem inv_VarDef {cells : List AC} (h : Typed Tryz.prog 290 cells) : ∃ x : DVarDef, cells = encL .no (tVarDef x) := by
  obtain ⟨hl, hf⟩ := typed_fields td290 h
  rw [sz290] at hl
  obtain ⟨c0, r0, rfl, hl0⟩ := len_cons hl
  obtain ⟨c1, r1, rfl, hl1⟩ := len_cons hl0
  obtain ⟨c2, r2, rfl, hl2⟩ := len_cons hl1
  obtain ⟨c3, r3, rfl, hl3⟩ := len_cons hl2
  obtain ⟨c4, r4, rfl, hl4⟩ := len_cons hl3
  obtain ⟨c5, r5, rfl, hl5⟩ := len_cons hl4
  obtain ⟨c6, r6, rfl, hl6⟩ := len_cons hl5
  obtain ⟨c7, r7, rfl, hl7⟩ := len_cons hl6
  obtain ⟨c8, r8, rfl, hl8⟩ := len_cons hl7
  obtain rfl := List.eq_nil_of_length_eq_zero hl8
  have g0 := hf (0, 1, 9) (by simp)
  simp only [List.drop_succ_cons, List.drop_zero, List.take_succ_cons, List.take_zero] at g0
  obtain ⟨x0, e0, _⟩ := typed_str td9 g0
  cases e0
  have g1 := hf (1, 2, 31) (by simp)
  simp only [List.drop_succ_cons, List.drop_zero, List.take_succ_cons, List.take_zero] at g1
  obtain ⟨x1, e1⟩ := inv_Type g1
  have g2 := hf (3, 1, 4) (by simp)
  simp only [List.drop_succ_cons, List.drop_zero, List.take_succ_cons, List.take_zero] at g2
  obtain ⟨x2, e2⟩ := typed_bool td4 g2
  cases e2
  have g3 := hf (4, 4, 29) (by simp)
  simp only [List.drop_succ_cons, List.drop_zero, List.take_succ_cons, List.take_zero] at g3
  obtain ⟨x3, e3⟩ := inv_Value g3
  have g4 := hf (8, 1, 128) (by simp)
  simp only [List.drop_succ_cons, List.drop_zero, List.take_succ_cons, List.take_zero] at g4
  obtain ⟨x4, e4⟩ := inv_DirS g4
  cases e4
  refine ⟨⟨x0, x1, x2, x3, x4⟩, ?_⟩
  simp only [tVarDef, encL_app, encL, encT, Md.ow_no, tStrS_len, tIntS_len, tDirS_len]
  rw [← e1, ← e3]
  try rfl
  try simp
theorem inv_VarDefS {cells : List AC} (h : Typed Tryz.prog 212 cells) : ∃ xs : List DVarDef, cells = [.sl .no xs.length (encR .no (tVarDefS xs))] := by
  obtain ⟨n, cs, rfl, h1, h2⟩ := typed_slice td212 h
  rw [sz290] at h1 h2
  obtain ⟨xs, h3, h4⟩ := list_of (tr := tVarDef) h1 (fun i hi => inv_VarDef (h2 i hi))
  exact ⟨xs, by rw [h3, h4, tVarDefS_map]⟩
theorem inv_Sel_rec : ∀ N : Nat, (∀ cells, SizeOf.sizeOf cells < N → Typed Tryz.prog 130 cells → ∃ x : DSel, cells = encL .no (tSel x)) ∧ (∀ cells, SizeOf.sizeOf cells < N → Typed Tryz.prog 57 cells → ∃ xs : List DSel, cells = [.sl .no xs.length (encR .no (tSelS xs))]) := by
  intro N
  induction N with
  | zero => exact ⟨fun _ h => by omega, fun _ h => by omega⟩
  | succ N ih =>
  refine ⟨fun cells hN h => ?_, fun cells hN h => ?_⟩
  · obtain ⟨hl, hf⟩ := typed_fields td130 h
    rw [sz130] at hl
    obtain ⟨c0, r0, rfl, hl0⟩ := len_cons hl
    obtain ⟨c1, r1, rfl, hl1⟩ := len_cons hl0
    obtain ⟨c2, r2, rfl, hl2⟩ := len_cons hl1
    obtain ⟨c3, r3, rfl, hl3⟩ := len_cons hl2
    obtain ⟨c4, r4, rfl, hl4⟩ := len_cons hl3
    obtain ⟨c5, r5, rfl, hl5⟩ := len_cons hl4
    obtain ⟨c6, r6, rfl, hl6⟩ := len_cons hl5
    obtain rfl := List.eq_nil_of_length_eq_zero hl6
    have g0 := hf (0, 1, 3) (by simp)
    simp only [List.drop_succ_cons, List.drop_zero, List.take_succ_cons, List.take_zero] at g0
    obtain ⟨x0, e0, _⟩ := typed_int td3 g0
    cases e0
    have g1 := hf (1, 1, 9) (by simp)
    simp only [List.drop_succ_cons, List.drop_zero, List.take_succ_cons, List.take_zero] at g1
    obtain ⟨x1, e1, _⟩ := typed_str td9 g1
    cases e1
    have g2 := hf (2, 1, 9) (by simp)
    simp only [List.drop_succ_cons, List.drop_zero, List.take_succ_cons, List.take_zero] at g2
    obtain ⟨x2, e2, _⟩ := typed_str td9 g2
    cases e2
    have g3 := hf (3, 1, 9) (by simp)
    simp only [List.drop_succ_cons, List.drop_zero, List.take_succ_cons, List.take_zero] at g3
    obtain ⟨x3, e3, _⟩ := typed_str td9 g3
    cases e3
    have g4 := hf (4, 1, 127) (by simp)
    simp only [List.drop_succ_cons, List.drop_zero, List.take_succ_cons, List.take_zero] at g4
    obtain ⟨x4, e4⟩ := inv_ArgS g4
    cases e4
    have g5 := hf (5, 1, 128) (by simp)
    simp only [List.drop_succ_cons, List.drop_zero, List.take_succ_cons, List.take_zero] at g5
    obtain ⟨x5, e5⟩ := inv_DirS g5
    cases e5
    have g6 := hf (6, 1, 57) (by simp)
    simp only [List.drop_succ_cons, List.drop_zero, List.take_succ_cons, List.take_zero] at g6
    obtain ⟨x6, e6⟩ := ih.2 _ (by simp at hN ⊢; omega) g6
    cases e6
    refine ⟨⟨x0, x1, x2, x3, x4, x5, x6⟩, ?_⟩
    simp only [tSel, encL_app, encL, encT, Md.ow_no, tStrS_len, tIntS_len, tArgS_len, tDirS_len, tSelS_len]
  · obtain ⟨n, cs, rfl, h1, h2⟩ := typed_slice td57 h
    rw [sz130] at h1 h2
    obtain ⟨xs, h3, h4⟩ := list_of (tr := tSel) h1 (fun i hi => ih.1 _ (by have := szo_take (l := cs.drop (i * 7)) 7; have := szo_drop (l := cs) (i * 7); simp at hN; omega) (h2 i hi))
    exact ⟨xs, by rw [h3, h4, tSelS_map]⟩
theorem inv_Sel {cells : List AC} (h : Typed Tryz.prog 130 cells) : ∃ x : DSel, cells = encL .no (tSel x) := (inv_Sel_rec _).1 _ (Nat.lt_succ_self _) h
theorem inv_SelS {cells : List AC} (h : Typed Tryz.prog 57 cells) : ∃ xs : List DSel, cells = [.sl .no xs.length (encR .no (tSelS xs))] := (inv_Sel_rec _).2 _ (Nat.lt_succ_self _) h
theorem inv_Op {cells : List AC} (h : Typed Tryz.prog 214 cells) : ∃ x : DOp, cells = encL .no (tOp x) := by
  obtain ⟨hl, hf⟩ := typed_fields td214 h
  rw [sz214] at hl
  obtain ⟨c0, r0, rfl, hl0⟩ := len_cons hl
  obtain ⟨c1, r1, rfl, hl1⟩ := len_cons hl0
  obtain ⟨c2, r2, rfl, hl2⟩ := len_cons hl1
  obtain ⟨c3, r3, rfl, hl3⟩ := len_cons hl2
  obtain ⟨c4, r4, rfl, hl4⟩ := len_cons hl3
  obtain rfl := List.eq_nil_of_length_eq_zero hl4
  have g0 := hf (0, 1, 3) (by simp)
  simp only [List.drop_succ_cons, List.drop_zero, List.take_succ_cons, List.take_zero] at g0
  obtain ⟨x0, e0, _⟩ := typed_int td3 g0
  cases e0
  have g1 := hf (1, 1, 9) (by simp)
  simp only [List.drop_succ_cons, List.drop_zero, List.take_succ_cons, List.take_zero] at g1
  obtain ⟨x1, e1, _⟩ := typed_str td9 g1
  cases e1
  have g2 := hf (2, 1, 212) (by simp)
  simp only [List.drop_succ_cons, List.drop_zero, List.take_succ_cons, List.take_zero] at g2
  obtain ⟨x2, e2⟩ := inv_VarDefS g2
  cases e2
  have g3 := hf (3, 1, 128) (by simp)
  simp only [List.drop_succ_cons, List.drop_zero, List.take_succ_cons, List.take_zero] at g3
  obtain ⟨x3, e3⟩ := inv_DirS g3
  cases e3
  have g4 := hf (4, 1, 57) (by simp)
  simp only [List.drop_succ_cons, List.drop_zero, List.take_succ_cons, List.take_zero] at g4
  obtain ⟨x4, e4⟩ := inv_SelS g4
  cases e4
  refine ⟨⟨x0, x1, x2, x3, x4⟩, ?_⟩
  simp only [tOp, encL_app, encL, encT, Md.ow_no, tStrS_len, tIntS_len, tDirS_len, tVarDefS_len, tSelS_len]
theorem inv_Frag {cells : List AC} (h : Typed Tryz.prog 216 cells) : ∃ x : DFrag, cells = encL .no (tFrag x) := by
  obtain ⟨hl, hf⟩ := typed_fields td216 h
  rw [sz216] at hl
  obtain ⟨c0, r0, rfl, hl0⟩ := len_cons hl
  obtain ⟨c1, r1, rfl, hl1⟩ := len_cons hl0
  obtain ⟨c2, r2, rfl, hl2⟩ := len_cons hl1
  obtain ⟨c3, r3, rfl, hl3⟩ := len_cons hl2
  obtain rfl := List.eq_nil_of_length_eq_zero hl3
  have g0 := hf (0, 1, 9) (by simp)
  simp only [List.drop_succ_cons, List.drop_zero, List.take_succ_cons, List.take_zero] at g0
  obtain ⟨x0, e0, _⟩ := typed_str td9 g0
  cases e0
  have g1 := hf (1, 1, 9) (by simp)
  simp only [List.drop_succ_cons, List.drop_zero, List.take_succ_cons, List.take_zero] at g1
  obtain ⟨x1, e1, _⟩ := typed_str td9 g1
  cases e1
  have g2 := hf (2, 1, 128) (by simp)
  simp only [List.drop_succ_cons, List.drop_zero, List.take_succ_cons, List.take_zero] at g2
  obtain ⟨x2, e2⟩ := inv_DirS g2
  cases e2
  have g3 := hf (3, 1, 57) (by simp)
  simp only [List.drop_succ_cons, List.drop_zero, List.take_succ_cons, List.take_zero] at g3
  obtain ⟨x3, e3⟩ := inv_SelS g3
  cases e3
  refine ⟨⟨x0, x1, x2, x3⟩, ?_⟩
  simp only [tFrag, encL_app, encL, encT, Md.ow_no, tStrS_len, tIntS_len, tDirS_len, tSelS_len]
theorem inv_InDef {cells : List AC} (h : Typed Tryz.prog 270 cells) : ∃ x : DInDef, cells = encL .no (tInDef x) := by
  obtain ⟨hl, hf⟩ := typed_fields td270 h
  rw [sz270] at hl
  obtain ⟨c0, r0, rfl, hl0⟩ := len_cons hl
  obtain ⟨c1, r1, rfl, hl1⟩ := len_cons hl0
  obtain ⟨c2, r2, rfl, hl2⟩ := len_cons hl1
  obtain ⟨c3, r3, rfl, hl3⟩ := len_cons hl2
  obtain ⟨c4, r4, rfl, hl4⟩ := len_cons hl3
  obtain ⟨c5, r5, rfl, hl5⟩ := len_cons hl4
  obtain ⟨c6, r6, rfl, hl6⟩ := len_cons hl5
  obtain ⟨c7, r7, rfl, hl7⟩ := len_cons hl6
  obtain ⟨c8, r8, rfl, hl8⟩ := len_cons hl7
  obtain ⟨c9, r9, rfl, hl9⟩ := len_cons hl8
  obtain rfl := List.eq_nil_of_length_eq_zero hl9
  have g0 := hf (0, 1, 9) (by simp)
  simp only [List.drop_succ_cons, List.drop_zero, List.take_succ_cons, List.take_zero] at g0
  obtain ⟨x0, e0, _⟩ := typed_str td9 g0
  cases e0
  have g1 := hf (1, 1, 9) (by simp)
  simp only [List.drop_succ_cons, List.drop_zero, List.take_succ_cons, List.take_zero] at g1
  obtain ⟨x1, e1, _⟩ := typed_str td9 g1
  cases e1
  have g2 := hf (2, 2, 31) (by simp)
  simp only [List.drop_succ_cons, List.drop_zero, List.take_succ_cons, List.take_zero] at g2
  obtain ⟨x2, e2⟩ := inv_Type g2
  have g3 := hf (4, 1, 4) (by simp)
  simp only [List.drop_succ_cons, List.drop_zero, List.take_succ_cons, List.take_zero] at g3
  obtain ⟨x3, e3⟩ := typed_bool td4 g3
  cases e3
  have g4 := hf (5, 4, 29) (by simp)
  simp only [List.drop_succ_cons, List.drop_zero, List.take_succ_cons, List.take_zero] at g4
  obtain ⟨x4, e4⟩ := inv_Value g4
  have g5 := hf (9, 1, 128) (by simp)
  simp only [List.drop_succ_cons, List.drop_zero, List.take_succ_cons, List.take_zero] at g5
  obtain ⟨x5, e5⟩ := inv_DirS g5
  cases e5
  refine ⟨⟨x0, x1, x2, x3, x4, x5⟩, ?_⟩
  simp only [tInDef, encL_app, encL, encT, Md.ow_no, tStrS_len, tIntS_len, tDirS_len]
  rw [← e2, ← e4]
  try rfl
  try simp
theorem inv_InDefS {cells : List AC} (h : Typed Tryz.prog 173 cells) : ∃ xs : List DInDef, cells = [.sl .no xs.length (encR .no (tInDefS xs))] := by
  obtain ⟨n, cs, rfl, h1, h2⟩ := typed_slice td173 h
  rw [sz270] at h1 h2
  obtain ⟨xs, h3, h4⟩ := list_of (tr := tInDef) h1 (fun i hi => inv_InDef (h2 i hi))
  exact ⟨xs, by rw [h3, h4, tInDefS_map]⟩
theorem inv_FieldDef {cells : List AC} (h : Typed Tryz.prog 267 cells) : ∃ x : DFieldDef, cells = encL .no (tFieldDef x) := by
  obtain ⟨hl, hf⟩ := typed_fields td267 h
  rw [sz267] at hl
  obtain ⟨c0, r0, rfl, hl0⟩ := len_cons hl
  obtain ⟨c1, r1, rfl, hl1⟩ := len_cons hl0
  obtain ⟨c2, r2, rfl, hl2⟩ := len_cons hl1
  obtain ⟨c3, r3, rfl, hl3⟩ := len_cons hl2
  obtain ⟨c4, r4, rfl, hl4⟩ := len_cons hl3
  obtain ⟨c5, r5, rfl, hl5⟩ := len_cons hl4
  obtain rfl := List.eq_nil_of_length_eq_zero hl5
  have g0 := hf (0, 1, 9) (by simp)
  simp only [List.drop_succ_cons, List.drop_zero, List.take_succ_cons, List.take_zero] at g0
  obtain ⟨x0, e0, _⟩ := typed_str td9 g0
  cases e0
  have g1 := hf (1, 1, 9) (by simp)
  simp only [List.drop_succ_cons, List.drop_zero, List.take_succ_cons, List.take_zero] at g1
  obtain ⟨x1, e1, _⟩ := typed_str td9 g1
  cases e1
  have g2 := hf (2, 1, 173) (by simp)
  simp only [List.drop_succ_cons, List.drop_zero, List.take_succ_cons, List.take_zero] at g2
  obtain ⟨x2, e2⟩ := inv_InDefS g2
  cases e2
  have g3 := hf (3, 2, 31) (by simp)
  simp only [List.drop_succ_cons, List.drop_zero, List.take_succ_cons, List.take_zero] at g3
  obtain ⟨x3, e3⟩ := inv_Type g3
  have g4 := hf (5, 1, 128) (by simp)
  simp only [List.drop_succ_cons, List.drop_zero, List.take_succ_cons, List.take_zero] at g4
  obtain ⟨x4, e4⟩ := inv_DirS g4
  cases e4
  refine ⟨⟨x0, x1, x2, x3, x4⟩, ?_⟩
  simp only [tFieldDef, encL_app, encL, encT, Md.ow_no, tStrS_len, tIntS_len, tDirS_len, tInDefS_len]
  rw [← e3]
  try rfl
  try simp
theorem inv_FieldDefS {cells : List AC} (h : Typed Tryz.prog 172 cells) : ∃ xs : List DFieldDef, cells = [.sl .no xs.length (encR .no (tFieldDefS xs))] := by
  obtain ⟨n, cs, rfl, h1, h2⟩ := typed_slice td172 h
  rw [sz267] at h1 h2
  obtain ⟨xs, h3, h4⟩ := list_of (tr := tFieldDef) h1 (fun i hi => inv_FieldDef (h2 i hi))
  exact ⟨xs, by rw [h3, h4, tFieldDefS_map]⟩
theorem inv_EnumDef {cells : List AC} (h : Typed Tryz.prog 273 cells) : ∃ x : DEnumDef, cells = encL .no (tEnumDef x) := by
  obtain ⟨hl, hf⟩ := typed_fields td273 h
  rw [sz273] at hl
  obtain ⟨c0, r0, rfl, hl0⟩ := len_cons hl
  obtain ⟨c1, r1, rfl, hl1⟩ := len_cons hl0
  obtain ⟨c2, r2, rfl, hl2⟩ := len_cons hl1
  obtain rfl := List.eq_nil_of_length_eq_zero hl2
  have g0 := hf (0, 1, 9) (by simp)
  simp only [List.drop_succ_cons, List.drop_zero, List.take_succ_cons, List.take_zero] at g0
  obtain ⟨x0, e0, _⟩ := typed_str td9 g0
  cases e0
  have g1 := hf (1, 1, 9) (by simp)
  simp only [List.drop_succ_cons, List.drop_zero, List.take_succ_cons, List.take_zero] at g1
  obtain ⟨x1, e1, _⟩ := typed_str td9 g1
  cases e1
  have g2 := hf (2, 1, 128) (by simp)
  simp only [List.drop_succ_cons, List.drop_zero, List.take_succ_cons, List.take_zero] at g2
  obtain ⟨x2, e2⟩ := inv_DirS g2
  cases e2
  refine ⟨⟨x0, x1, x2⟩, ?_⟩
  simp only [tEnumDef, encL_app, encL, encT, Md.ow_no, tStrS_len, tIntS_len, tDirS_len]
theorem inv_EnumDefS {cells : List AC} (h : Typed Tryz.prog 174 cells) : ∃ xs : List DEnumDef, cells = [.sl .no xs.length (encR .no (tEnumDefS xs))] := by
  obtain ⟨n, cs, rfl, h1, h2⟩ := typed_slice td174 h
  rw [sz273] at h1 h2
  obtain ⟨xs, h3, h4⟩ := list_of (tr := tEnumDef) h1 (fun i hi => inv_EnumDef (h2 i hi))
  exact ⟨xs, by rw [h3, h4, tEnumDefS_map]⟩
theorem inv_Root {cells : List AC} (h : Typed Tryz.prog 178 cells) : ∃ x : DRoot, cells = encL .no (tRoot x) := by
  obtain ⟨hl, hf⟩ := typed_fields td178 h
  rw [sz178] at hl
  obtain ⟨c0, r0, rfl, hl0⟩ := len_cons hl
  obtain ⟨c1, r1, rfl, hl1⟩ := len_cons hl0
  obtain rfl := List.eq_nil_of_length_eq_zero hl1
  have g0 := hf (0, 1, 3) (by simp)
  simp only [List.drop_succ_cons, List.drop_zero, List.take_succ_cons, List.take_zero] at g0
  obtain ⟨x0, e0, _⟩ := typed_int td3 g0
  cases e0
  have g1 := hf (1, 1, 9) (by simp)
  simp only [List.drop_succ_cons, List.drop_zero, List.take_succ_cons, List.take_zero] at g1
  obtain ⟨x1, e1, _⟩ := typed_str td9 g1
  cases e1
  refine ⟨⟨x0, x1⟩, ?_⟩
  simp only [tRoot, encL_app, encL, encT, Md.ow_no, tStrS_len, tIntS_len]
theorem inv_RootS {cells : List AC} (h : Typed Tryz.prog 23 cells) : ∃ xs : List DRoot, cells = [.sl .no xs.length (encR .no (tRootS xs))] := by
  obtain ⟨n, cs, rfl, h1, h2⟩ := typed_slice td23 h
  rw [sz178] at h1 h2
  obtain ⟨xs, h3, h4⟩ := list_of (tr := tRoot) h1 (fun i hi => inv_Root (h2 i hi))
  exact ⟨xs, by rw [h3, h4, tRootS_map]⟩
theorem inv_Def {cells : List AC} (h : Typed Tryz.prog 176 cells) : ∃ x : DDef, cells = encL .no (tDef x) := by
  obtain ⟨hl, hf⟩ := typed_fields td176 h
  rw [sz176] at hl
  obtain ⟨c0, r0, rfl, hl0⟩ := len_cons hl
  obtain ⟨c1, r1, rfl, hl1⟩ := len_cons hl0
  obtain ⟨c2, r2, rfl, hl2⟩ := len_cons hl1
  obtain ⟨c3, r3, rfl, hl3⟩ := len_cons hl2
  obtain ⟨c4, r4, rfl, hl4⟩ := len_cons hl3
  obtain ⟨c5, r5, rfl, hl5⟩ := len_cons hl4
  obtain ⟨c6, r6, rfl, hl6⟩ := len_cons hl5
  obtain ⟨c7, r7, rfl, hl7⟩ := len_cons hl6
  obtain ⟨c8, r8, rfl, hl8⟩ := len_cons hl7
  obtain ⟨c9, r9, rfl, hl9⟩ := len_cons hl8
  obtain ⟨c10, r10, rfl, hl10⟩ := len_cons hl9
  obtain rfl := List.eq_nil_of_length_eq_zero hl10
  have g0 := hf (0, 1, 3) (by simp)
  simp only [List.drop_succ_cons, List.drop_zero, List.take_succ_cons, List.take_zero] at g0
  obtain ⟨x0, e0, _⟩ := typed_int td3 g0
  cases e0
  have g1 := hf (1, 1, 4) (by simp)
  simp only [List.drop_succ_cons, List.drop_zero, List.take_succ_cons, List.take_zero] at g1
  obtain ⟨x1, e1⟩ := typed_bool td4 g1
  cases e1
  have g2 := hf (2, 1, 9) (by simp)
  simp only [List.drop_succ_cons, List.drop_zero, List.take_succ_cons, List.take_zero] at g2
  obtain ⟨x2, e2, _⟩ := typed_str td9 g2
  cases e2
  have g3 := hf (3, 1, 9) (by simp)
  simp only [List.drop_succ_cons, List.drop_zero, List.take_succ_cons, List.take_zero] at g3
  obtain ⟨x3, e3, _⟩ := typed_str td9 g3
  cases e3
  have g4 := hf (4, 1, 27) (by simp)
  simp only [List.drop_succ_cons, List.drop_zero, List.take_succ_cons, List.take_zero] at g4
  obtain ⟨x4, e4⟩ := inv_StrS g4
  cases e4
  have g5 := hf (5, 1, 172) (by simp)
  simp only [List.drop_succ_cons, List.drop_zero, List.take_succ_cons, List.take_zero] at g5
  obtain ⟨x5, e5⟩ := inv_FieldDefS g5
  cases e5
  have g6 := hf (6, 1, 173) (by simp)
  simp only [List.drop_succ_cons, List.drop_zero, List.take_succ_cons, List.take_zero] at g6
  obtain ⟨x6, e6⟩ := inv_InDefS g6
  cases e6
  have g7 := hf (7, 1, 174) (by simp)
  simp only [List.drop_succ_cons, List.drop_zero, List.take_succ_cons, List.take_zero] at g7
  obtain ⟨x7, e7⟩ := inv_EnumDefS g7
  cases e7
  have g8 := hf (8, 1, 23) (by simp)
  simp only [List.drop_succ_cons, List.drop_zero, List.take_succ_cons, List.take_zero] at g8
  obtain ⟨x8, e8⟩ := inv_RootS g8
  cases e8
  have g9 := hf (9, 1, 4) (by simp)
  simp only [List.drop_succ_cons, List.drop_zero, List.take_succ_cons, List.take_zero] at g9
  obtain ⟨x9, e9⟩ := typed_bool td4 g9
  cases e9
  have g10 := hf (10, 1, 128) (by simp)
  simp only [List.drop_succ_cons, List.drop_zero, List.take_succ_cons, List.take_zero] at g10
  obtain ⟨x10, e10⟩ := inv_DirS g10
  cases e10
  refine ⟨⟨x0, x1, x2, x3, x4, x5, x6, x7, x8, x9, x10⟩, ?_⟩
  simp only [tDef, encL_app, encL, encT, Md.ow_no, tStrS_len, tIntS_len, tDirS_len, tInDefS_len, tFieldDefS_len, tEnumDefS_len, tRootS_len]
theorem inv_DefS {cells : List AC} (h : Typed Tryz.prog 22 cells) : ∃ xs : List DDef, cells = [.sl .no xs.length (encR .no (tDefS xs))] := by
  obtain ⟨n, cs, rfl, h1, h2⟩ := typed_slice td22 h
  rw [sz176] at h1 h2
  obtain ⟨xs, h3, h4⟩ := list_of (tr := tDef) h1 (fun i hi => inv_Def (h2 i hi))
  exact ⟨xs, by rw [h3, h4, tDefS_map]⟩
theorem inv_Item {cells : List AC} (h : Typed Tryz.prog 218 cells) : ∃ x : DItem, cells = encL .no (tItem x) := by
  obtain ⟨hl, hf⟩ := typed_fields td218 h
  rw [sz218] at hl
  obtain ⟨c0, r0, rfl, hl0⟩ := len_cons hl
  obtain ⟨c1, r1, rfl, hl1⟩ := len_cons hl0
  obtain ⟨c2, r2, rfl, hl2⟩ := len_cons hl1
  obtain ⟨c3, r3, rfl, hl3⟩ := len_cons hl2
  obtain ⟨c4, r4, rfl, hl4⟩ := len_cons hl3
  obtain ⟨c5, r5, rfl, hl5⟩ := len_cons hl4
  obtain ⟨c6, r6, rfl, hl6⟩ := len_cons hl5
  obtain ⟨c7, r7, rfl, hl7⟩ := len_cons hl6
  obtain ⟨c8, r8, rfl, hl8⟩ := len_cons hl7
  obtain ⟨c9, r9, rfl, hl9⟩ := len_cons hl8
  obtain ⟨c10, r10, rfl, hl10⟩ := len_cons hl9
  obtain ⟨c11, r11, rfl, hl11⟩ := len_cons hl10
  obtain ⟨c12, r12, rfl, hl12⟩ := len_cons hl11
  obtain ⟨c13, r13, rfl, hl13⟩ := len_cons hl12
  obtain ⟨c14, r14, rfl, hl14⟩ := len_cons hl13
  obtain ⟨c15, r15, rfl, hl15⟩ := len_cons hl14
  obtain ⟨c16, r16, rfl, hl16⟩ := len_cons hl15
  obtain ⟨c17, r17, rfl, hl17⟩ := len_cons hl16
  obtain ⟨c18, r18, rfl, hl18⟩ := len_cons hl17
  obtain ⟨c19, r19, rfl, hl19⟩ := len_cons hl18
  obtain ⟨c20, r20, rfl, hl20⟩ := len_cons hl19
  obtain rfl := List.eq_nil_of_length_eq_zero hl20
  have g0 := hf (0, 1, 3) (by simp)
  simp only [List.drop_succ_cons, List.drop_zero, List.take_succ_cons, List.take_zero] at g0
  obtain ⟨x0, e0, _⟩ := typed_int td3 g0
  cases e0
  have g1 := hf (1, 5, 214) (by simp)
  simp only [List.drop_succ_cons, List.drop_zero, List.take_succ_cons, List.take_zero] at g1
  obtain ⟨x1, e1⟩ := inv_Op g1
  have g2 := hf (6, 4, 216) (by simp)
  simp only [List.drop_succ_cons, List.drop_zero, List.take_succ_cons, List.take_zero] at g2
  obtain ⟨x2, e2⟩ := inv_Frag g2
  have g3 := hf (10, 11, 176) (by simp)
  simp only [List.drop_succ_cons, List.drop_zero, List.take_succ_cons, List.take_zero] at g3
  obtain ⟨x3, e3⟩ := inv_Def g3
  refine ⟨⟨x0, x1, x2, x3⟩, ?_⟩
  simp only [tItem, encL_app, encL, encT, Md.ow_no, tStrS_len, tIntS_len]
  rw [← e1, ← e2, ← e3]
  try rfl
  try simp
theorem inv_ItemS {cells : List AC} (h : Typed Tryz.prog 68 cells) : ∃ xs : List DItem, cells = [.sl .no xs.length (encR .no (tItemS xs))] := by
  obtain ⟨n, cs, rfl, h1, h2⟩ := typed_slice td68 h
  rw [sz218] at h1 h2
  obtain ⟨xs, h3, h4⟩ := list_of (tr := tItem) h1 (fun i hi => inv_Item (h2 i hi))
  exact ⟨xs, by rw [h3, h4, tItemS_map]⟩
theorem inv_Doc {cells : List AC} (h : Typed Tryz.prog 70 cells) : ∃ x : DDoc, cells = encL .no (tDoc x) := by
  obtain ⟨hl, hf⟩ := typed_fields td70 h
  rw [sz70] at hl
  obtain ⟨c0, r0, rfl, hl0⟩ := len_cons hl
  obtain rfl := List.eq_nil_of_length_eq_zero hl0
  have g0 := hf (0, 1, 68) (by simp)
  simp only [List.drop_succ_cons, List.drop_zero, List.take_succ_cons, List.take_zero] at g0
  obtain ⟨x0, e0⟩ := inv_ItemS g0
  cases e0
  refine ⟨⟨x0⟩, ?_⟩
  simp only [tDoc, encL_app, encL, encT, Md.ow_no, tStrS_len, tIntS_len, tItemS_len]
theorem inv_Schema {cells : List AC} (h : Typed Tryz.prog 25 cells) : ∃ x : DSchema, cells = encL .no (tSchema x) := by
  obtain ⟨hl, hf⟩ := typed_fields td25 h
  rw [sz25] at hl
  obtain ⟨c0, r0, rfl, hl0⟩ := len_cons hl
  obtain ⟨c1, r1, rfl, hl1⟩ := len_cons hl0
  obtain ⟨c2, r2, rfl, hl2⟩ := len_cons hl1
  obtain rfl := List.eq_nil_of_length_eq_zero hl2
  have g0 := hf (0, 1, 22) (by simp)
  simp only [List.drop_succ_cons, List.drop_zero, List.take_succ_cons, List.take_zero] at g0
  obtain ⟨x0, e0⟩ := inv_DefS g0
  cases e0
  have g1 := hf (1, 1, 22) (by simp)
  simp only [List.drop_succ_cons, List.drop_zero, List.take_succ_cons, List.take_zero] at g1
  obtain ⟨x1, e1⟩ := inv_DefS g1
  cases e1
  have g2 := hf (2, 1, 23) (by simp)
  simp only [List.drop_succ_cons, List.drop_zero, List.take_succ_cons, List.take_zero] at g2
  obtain ⟨x2, e2⟩ := inv_RootS g2
  cases e2
  refine ⟨⟨x0, x1, x2⟩, ?_⟩
  simp only [tSchema, encL_app, encL, encT, Md.ow_no, tStrS_len, tIntS_len, tRootS_len, tDefS_len]
end Go.Proofs.YthpbggfajpakkaaGreat.Abs
