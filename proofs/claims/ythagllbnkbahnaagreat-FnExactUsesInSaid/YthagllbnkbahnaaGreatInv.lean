/- PRINTED by inv.py: what typed cells are. No condition. -/
import Derived.Test.YthagllbnkbahnaaGreatTyp
import Derived.Test.YthagllbnkbahnaaGreatFacts
set_option linter.unusedVariables false
set_option linter.unusedSimpArgs false
namespace Go.Proofs.YthagllbnkbahnaaGreat.Abs
open Go
theorem inv_StrS {cells : List AC} (h : Typed Tryz.prog 94 cells) : ∃ xs : List Bs, cells = [.sl .no xs.length (encR .no (tStrS xs))] := by
  obtain ⟨n, cs, rfl, h1, h2⟩ := typed_slice td94 h
  rw [sz9] at h1 h2
  obtain ⟨xs, h3, h4⟩ := list_of (tr := fun s : Bs => [Tr.str s]) h1 (fun i hi => by
    obtain ⟨s, hs, _⟩ := typed_str td9 (h2 i hi)
    exact ⟨s, by rw [hs]; simp [encL, encT]⟩)
  exact ⟨xs, by rw [h3, h4, tStrS_map]⟩
theorem inv_Type {cells : List AC} (h : Typed Tryz.prog 185 cells) : ∃ x : DType, cells = encL .no (tType x) := by
  obtain ⟨hl, hf⟩ := typed_fields td185 h
  rw [sz185] at hl
  obtain ⟨c0, r0, rfl, hl0⟩ := len_cons hl
  obtain ⟨c1, r1, rfl, hl1⟩ := len_cons hl0
  obtain rfl := List.eq_nil_of_length_eq_zero hl1
  have g0 := hf (0, 1, 9) (by simp)
  simp only [List.drop_succ_cons, List.drop_zero, List.take_succ_cons, List.take_zero] at g0
  obtain ⟨x0, e0, _⟩ := typed_str td9 g0
  cases e0
  have g1 := hf (1, 1, 9) (by simp)
  simp only [List.drop_succ_cons, List.drop_zero, List.take_succ_cons, List.take_zero] at g1
  obtain ⟨x1, e1, _⟩ := typed_str td9 g1
  cases e1
  refine ⟨⟨x0, x1⟩, ?_⟩
  simp only [tType, encL_app, encL, encT, Md.ow_no, tStrS_len, tIntS_len]
theorem inv_Value_rec : ∀ N : Nat, (∀ cells, SizeOf.sizeOf cells < N → Typed Tryz.prog 154 cells → ∃ x : DValue, cells = encL .no (tValue x)) ∧ (∀ cells, SizeOf.sizeOf cells < N → Typed Tryz.prog 152 cells → ∃ xs : List DValue, cells = [.sl .no xs.length (encR .no (tValueS xs))]) := by
  intro N
  induction N with
  | zero => exact ⟨fun _ h => by omega, fun _ h => by omega⟩
  | succ N ih =>
  refine ⟨fun cells hN h => ?_, fun cells hN h => ?_⟩
  · obtain ⟨hl, hf⟩ := typed_fields td154 h
    rw [sz154] at hl
    obtain ⟨c0, r0, rfl, hl0⟩ := len_cons hl
    obtain ⟨c1, r1, rfl, hl1⟩ := len_cons hl0
    obtain ⟨c2, r2, rfl, hl2⟩ := len_cons hl1
    obtain ⟨c3, r3, rfl, hl3⟩ := len_cons hl2
    obtain rfl := List.eq_nil_of_length_eq_zero hl3
    have g0 := hf (0, 1, 3) (by simp)
    simp only [List.drop_succ_cons, List.drop_zero, List.take_succ_cons, List.take_zero] at g0
    obtain ⟨x0, e0, _⟩ := typed_int td3 g0
    cases e0
    have g1 := hf (1, 1, 9) (by simp)
    simp only [List.drop_succ_cons, List.drop_zero, List.take_succ_cons, List.take_zero] at g1
    obtain ⟨x1, e1, _⟩ := typed_str td9 g1
    cases e1
    have g2 := hf (2, 1, 152) (by simp)
    simp only [List.drop_succ_cons, List.drop_zero, List.take_succ_cons, List.take_zero] at g2
    obtain ⟨x2, e2⟩ := ih.2 _ (by simp at hN ⊢; omega) g2
    cases e2
    have g3 := hf (3, 1, 94) (by simp)
    simp only [List.drop_succ_cons, List.drop_zero, List.take_succ_cons, List.take_zero] at g3
    obtain ⟨x3, e3⟩ := inv_StrS g3
    cases e3
    refine ⟨⟨x0, x1, x2, x3⟩, ?_⟩
    simp only [tValue, encL_app, encL, encT, Md.ow_no, tStrS_len, tIntS_len, tValueS_len]
  · obtain ⟨n, cs, rfl, h1, h2⟩ := typed_slice td152 h
    rw [sz154] at h1 h2
    obtain ⟨xs, h3, h4⟩ := list_of (tr := tValue) h1 (fun i hi => ih.1 _ (by have := szo_take (l := cs.drop (i * 4)) 4; have := szo_drop (l := cs) (i * 4); simp at hN; omega) (h2 i hi))
    exact ⟨xs, by rw [h3, h4, tValueS_map]⟩
theorem inv_Value {cells : List AC} (h : Typed Tryz.prog 154 cells) : ∃ x : DValue, cells = encL .no (tValue x) := (inv_Value_rec _).1 _ (Nat.lt_succ_self _) h
theorem inv_ValueS {cells : List AC} (h : Typed Tryz.prog 152 cells) : ∃ xs : List DValue, cells = [.sl .no xs.length (encR .no (tValueS xs))] := (inv_Value_rec _).2 _ (Nat.lt_succ_self _) h
theorem inv_Arg {cells : List AC} (h : Typed Tryz.prog 156 cells) : ∃ x : DArg, cells = encL .no (tArg x) := by
  obtain ⟨hl, hf⟩ := typed_fields td156 h
  rw [sz156] at hl
  obtain ⟨c0, r0, rfl, hl0⟩ := len_cons hl
  obtain ⟨c1, r1, rfl, hl1⟩ := len_cons hl0
  obtain ⟨c2, r2, rfl, hl2⟩ := len_cons hl1
  obtain ⟨c3, r3, rfl, hl3⟩ := len_cons hl2
  obtain ⟨c4, r4, rfl, hl4⟩ := len_cons hl3
  obtain rfl := List.eq_nil_of_length_eq_zero hl4
  have g0 := hf (0, 1, 9) (by simp)
  simp only [List.drop_succ_cons, List.drop_zero, List.take_succ_cons, List.take_zero] at g0
  obtain ⟨x0, e0, _⟩ := typed_str td9 g0
  cases e0
  have g1 := hf (1, 4, 154) (by simp)
  simp only [List.drop_succ_cons, List.drop_zero, List.take_succ_cons, List.take_zero] at g1
  obtain ⟨x1, e1⟩ := inv_Value g1
  refine ⟨⟨x0, x1⟩, ?_⟩
  simp only [tArg, encL_app, encL, encT, Md.ow_no, tStrS_len, tIntS_len]
  rw [← e1]
  try rfl
  try simp
theorem inv_ArgS {cells : List AC} (h : Typed Tryz.prog 52 cells) : ∃ xs : List DArg, cells = [.sl .no xs.length (encR .no (tArgS xs))] := by
  obtain ⟨n, cs, rfl, h1, h2⟩ := typed_slice td52 h
  rw [sz156] at h1 h2
  obtain ⟨xs, h3, h4⟩ := list_of (tr := tArg) h1 (fun i hi => inv_Arg (h2 i hi))
  exact ⟨xs, by rw [h3, h4, tArgS_map]⟩
theorem inv_Dir {cells : List AC} (h : Typed Tryz.prog 159 cells) : ∃ x : DDir, cells = encL .no (tDir x) := by
  obtain ⟨hl, hf⟩ := typed_fields td159 h
  rw [sz159] at hl
  obtain ⟨c0, r0, rfl, hl0⟩ := len_cons hl
  obtain ⟨c1, r1, rfl, hl1⟩ := len_cons hl0
  obtain rfl := List.eq_nil_of_length_eq_zero hl1
  have g0 := hf (0, 1, 9) (by simp)
  simp only [List.drop_succ_cons, List.drop_zero, List.take_succ_cons, List.take_zero] at g0
  obtain ⟨x0, e0, _⟩ := typed_str td9 g0
  cases e0
  have g1 := hf (1, 1, 52) (by simp)
  simp only [List.drop_succ_cons, List.drop_zero, List.take_succ_cons, List.take_zero] at g1
  obtain ⟨x1, e1⟩ := inv_ArgS g1
  cases e1
  refine ⟨⟨x0, x1⟩, ?_⟩
  simp only [tDir, encL_app, encL, encT, Md.ow_no, tStrS_len, tIntS_len, tArgS_len]
theorem inv_DirS {cells : List AC} (h : Typed Tryz.prog 53 cells) : ∃ xs : List DDir, cells = [.sl .no xs.length (encR .no (tDirS xs))] := by
  obtain ⟨n, cs, rfl, h1, h2⟩ := typed_slice td53 h
  rw [sz159] at h1 h2
  obtain ⟨xs, h3, h4⟩ := list_of (tr := tDir) h1 (fun i hi => inv_Dir (h2 i hi))
  exact ⟨xs, by rw [h3, h4, tDirS_map]⟩
theorem inv_InDef {cells : List AC} (h : Typed Tryz.prog 190 cells) : ∃ x : DInDef, cells = encL .no (tInDef x) := by
  obtain ⟨hl, hf⟩ := typed_fields td190 h
  rw [sz190] at hl
  obtain ⟨c0, r0, rfl, hl0⟩ := len_cons hl
  obtain ⟨c1, r1, rfl, hl1⟩ := len_cons hl0
  obtain ⟨c2, r2, rfl, hl2⟩ := len_cons hl1
  obtain ⟨c3, r3, rfl, hl3⟩ := len_cons hl2
  obtain ⟨c4, r4, rfl, hl4⟩ := len_cons hl3
  obtain ⟨c5, r5, rfl, hl5⟩ := len_cons hl4
  obtain ⟨c6, r6, rfl, hl6⟩ := len_cons hl5
  obtain ⟨c7, r7, rfl, hl7⟩ := len_cons hl6
  obtain ⟨c8, r8, rfl, hl8⟩ := len_cons hl7
  obtain ⟨c9, r9, rfl, hl9⟩ := len_cons hl8
  obtain rfl := List.eq_nil_of_length_eq_zero hl9
  have g0 := hf (0, 1, 9) (by simp)
  simp only [List.drop_succ_cons, List.drop_zero, List.take_succ_cons, List.take_zero] at g0
  obtain ⟨x0, e0, _⟩ := typed_str td9 g0
  cases e0
  have g1 := hf (1, 1, 9) (by simp)
  simp only [List.drop_succ_cons, List.drop_zero, List.take_succ_cons, List.take_zero] at g1
  obtain ⟨x1, e1, _⟩ := typed_str td9 g1
  cases e1
  have g2 := hf (2, 2, 185) (by simp)
  simp only [List.drop_succ_cons, List.drop_zero, List.take_succ_cons, List.take_zero] at g2
  obtain ⟨x2, e2⟩ := inv_Type g2
  have g3 := hf (4, 1, 4) (by simp)
  simp only [List.drop_succ_cons, List.drop_zero, List.take_succ_cons, List.take_zero] at g3
  obtain ⟨x3, e3⟩ := typed_bool td4 g3
  cases e3
  have g4 := hf (5, 4, 154) (by simp)
  simp only [List.drop_succ_cons, List.drop_zero, List.take_succ_cons, List.take_zero] at g4
  obtain ⟨x4, e4⟩ := inv_Value g4
  have g5 := hf (9, 1, 53) (by simp)
  simp only [List.drop_succ_cons, List.drop_zero, List.take_succ_cons, List.take_zero] at g5
  obtain ⟨x5, e5⟩ := inv_DirS g5
  cases e5
  refine ⟨⟨x0, x1, x2, x3, x4, x5⟩, ?_⟩
  simp only [tInDef, encL_app, encL, encT, Md.ow_no, tStrS_len, tIntS_len, tDirS_len]
  rw [← e2, ← e4]
  try rfl
  try simp
theorem inv_InDefS {cells : List AC} (h : Typed Tryz.prog 96 cells) : ∃ xs : List DInDef, cells = [.sl .no xs.length (encR .no (tInDefS xs))] := by
  obtain ⟨n, cs, rfl, h1, h2⟩ := typed_slice td96 h
  rw [sz190] at h1 h2
  obtain ⟨xs, h3, h4⟩ := list_of (tr := tInDef) h1 (fun i hi => inv_InDef (h2 i hi))
  exact ⟨xs, by rw [h3, h4, tInDefS_map]⟩
theorem inv_FieldDef {cells : List AC} (h : Typed Tryz.prog 187 cells) : ∃ x : DFieldDef, cells = encL .no (tFieldDef x) := by
  obtain ⟨hl, hf⟩ := typed_fields td187 h
  rw [sz187] at hl
  obtain ⟨c0, r0, rfl, hl0⟩ := len_cons hl
  obtain ⟨c1, r1, rfl, hl1⟩ := len_cons hl0
  obtain ⟨c2, r2, rfl, hl2⟩ := len_cons hl1
  obtain ⟨c3, r3, rfl, hl3⟩ := len_cons hl2
  obtain ⟨c4, r4, rfl, hl4⟩ := len_cons hl3
  obtain ⟨c5, r5, rfl, hl5⟩ := len_cons hl4
  obtain rfl := List.eq_nil_of_length_eq_zero hl5
  have g0 := hf (0, 1, 9) (by simp)
  simp only [List.drop_succ_cons, List.drop_zero, List.take_succ_cons, List.take_zero] at g0
  obtain ⟨x0, e0, _⟩ := typed_str td9 g0
  cases e0
  have g1 := hf (1, 1, 9) (by simp)
  simp only [List.drop_succ_cons, List.drop_zero, List.take_succ_cons, List.take_zero] at g1
  obtain ⟨x1, e1, _⟩ := typed_str td9 g1
  cases e1
  have g2 := hf (2, 1, 96) (by simp)
  simp only [List.drop_succ_cons, List.drop_zero, List.take_succ_cons, List.take_zero] at g2
  obtain ⟨x2, e2⟩ := inv_InDefS g2
  cases e2
  have g3 := hf (3, 2, 185) (by simp)
  simp only [List.drop_succ_cons, List.drop_zero, List.take_succ_cons, List.take_zero] at g3
  obtain ⟨x3, e3⟩ := inv_Type g3
  have g4 := hf (5, 1, 53) (by simp)
  simp only [List.drop_succ_cons, List.drop_zero, List.take_succ_cons, List.take_zero] at g4
  obtain ⟨x4, e4⟩ := inv_DirS g4
  cases e4
  refine ⟨⟨x0, x1, x2, x3, x4⟩, ?_⟩
  simp only [tFieldDef, encL_app, encL, encT, Md.ow_no, tStrS_len, tIntS_len, tDirS_len, tInDefS_len]
  rw [← e3]
  try rfl
  try simp
theorem inv_FieldDefS {cells : List AC} (h : Typed Tryz.prog 95 cells) : ∃ xs : List DFieldDef, cells = [.sl .no xs.length (encR .no (tFieldDefS xs))] := by
  obtain ⟨n, cs, rfl, h1, h2⟩ := typed_slice td95 h
  rw [sz187] at h1 h2
  obtain ⟨xs, h3, h4⟩ := list_of (tr := tFieldDef) h1 (fun i hi => inv_FieldDef (h2 i hi))
  exact ⟨xs, by rw [h3, h4, tFieldDefS_map]⟩
theorem inv_EnumDef {cells : List AC} (h : Typed Tryz.prog 193 cells) : ∃ x : DEnumDef, cells = encL .no (tEnumDef x) := by
  obtain ⟨hl, hf⟩ := typed_fields td193 h
  rw [sz193] at hl
  obtain ⟨c0, r0, rfl, hl0⟩ := len_cons hl
  obtain ⟨c1, r1, rfl, hl1⟩ := len_cons hl0
  obtain ⟨c2, r2, rfl, hl2⟩ := len_cons hl1
  obtain rfl := List.eq_nil_of_length_eq_zero hl2
  have g0 := hf (0, 1, 9) (by simp)
  simp only [List.drop_succ_cons, List.drop_zero, List.take_succ_cons, List.take_zero] at g0
  obtain ⟨x0, e0, _⟩ := typed_str td9 g0
  cases e0
  have g1 := hf (1, 1, 9) (by simp)
  simp only [List.drop_succ_cons, List.drop_zero, List.take_succ_cons, List.take_zero] at g1
  obtain ⟨x1, e1, _⟩ := typed_str td9 g1
  cases e1
  have g2 := hf (2, 1, 53) (by simp)
  simp only [List.drop_succ_cons, List.drop_zero, List.take_succ_cons, List.take_zero] at g2
  obtain ⟨x2, e2⟩ := inv_DirS g2
  cases e2
  refine ⟨⟨x0, x1, x2⟩, ?_⟩
  simp only [tEnumDef, encL_app, encL, encT, Md.ow_no, tStrS_len, tIntS_len, tDirS_len]
theorem inv_EnumDefS {cells : List AC} (h : Typed Tryz.prog 97 cells) : ∃ xs : List DEnumDef, cells = [.sl .no xs.length (encR .no (tEnumDefS xs))] := by
  obtain ⟨n, cs, rfl, h1, h2⟩ := typed_slice td97 h
  rw [sz193] at h1 h2
  obtain ⟨xs, h3, h4⟩ := list_of (tr := tEnumDef) h1 (fun i hi => inv_EnumDef (h2 i hi))
  exact ⟨xs, by rw [h3, h4, tEnumDefS_map]⟩
theorem inv_Root {cells : List AC} (h : Typed Tryz.prog 102 cells) : ∃ x : DRoot, cells = encL .no (tRoot x) := by
  obtain ⟨hl, hf⟩ := typed_fields td102 h
  rw [sz102] at hl
  obtain ⟨c0, r0, rfl, hl0⟩ := len_cons hl
  obtain ⟨c1, r1, rfl, hl1⟩ := len_cons hl0
  obtain rfl := List.eq_nil_of_length_eq_zero hl1
  have g0 := hf (0, 1, 3) (by simp)
  simp only [List.drop_succ_cons, List.drop_zero, List.take_succ_cons, List.take_zero] at g0
  obtain ⟨x0, e0, _⟩ := typed_int td3 g0
  cases e0
  have g1 := hf (1, 1, 9) (by simp)
  simp only [List.drop_succ_cons, List.drop_zero, List.take_succ_cons, List.take_zero] at g1
  obtain ⟨x1, e1, _⟩ := typed_str td9 g1
  cases e1
  refine ⟨⟨x0, x1⟩, ?_⟩
  simp only [tRoot, encL_app, encL, encT, Md.ow_no, tStrS_len, tIntS_len]
theorem inv_RootS {cells : List AC} (h : Typed Tryz.prog 23 cells) : ∃ xs : List DRoot, cells = [.sl .no xs.length (encR .no (tRootS xs))] := by
  obtain ⟨n, cs, rfl, h1, h2⟩ := typed_slice td23 h
  rw [sz102] at h1 h2
  obtain ⟨xs, h3, h4⟩ := list_of (tr := tRoot) h1 (fun i hi => inv_Root (h2 i hi))
  exact ⟨xs, by rw [h3, h4, tRootS_map]⟩
theorem inv_Def {cells : List AC} (h : Typed Tryz.prog 99 cells) : ∃ x : DDef, cells = encL .no (tDef x) := by
  obtain ⟨hl, hf⟩ := typed_fields td99 h
  rw [sz99] at hl
  obtain ⟨c0, r0, rfl, hl0⟩ := len_cons hl
  obtain ⟨c1, r1, rfl, hl1⟩ := len_cons hl0
  obtain ⟨c2, r2, rfl, hl2⟩ := len_cons hl1
  obtain ⟨c3, r3, rfl, hl3⟩ := len_cons hl2
  obtain ⟨c4, r4, rfl, hl4⟩ := len_cons hl3
  obtain ⟨c5, r5, rfl, hl5⟩ := len_cons hl4
  obtain ⟨c6, r6, rfl, hl6⟩ := len_cons hl5
  obtain ⟨c7, r7, rfl, hl7⟩ := len_cons hl6
  obtain ⟨c8, r8, rfl, hl8⟩ := len_cons hl7
  obtain ⟨c9, r9, rfl, hl9⟩ := len_cons hl8
  obtain ⟨c10, r10, rfl, hl10⟩ := len_cons hl9
  obtain rfl := List.eq_nil_of_length_eq_zero hl10
  have g0 := hf (0, 1, 3) (by simp)
  simp only [List.drop_succ_cons, List.drop_zero, List.take_succ_cons, List.take_zero] at g0
  obtain ⟨x0, e0, _⟩ := typed_int td3 g0
  cases e0
  have g1 := hf (1, 1, 4) (by simp)
  simp only [List.drop_succ_cons, List.drop_zero, List.take_succ_cons, List.take_zero] at g1
  obtain ⟨x1, e1⟩ := typed_bool td4 g1
  cases e1
  have g2 := hf (2, 1, 9) (by simp)
  simp only [List.drop_succ_cons, List.drop_zero, List.take_succ_cons, List.take_zero] at g2
  obtain ⟨x2, e2, _⟩ := typed_str td9 g2
  cases e2
  have g3 := hf (3, 1, 9) (by simp)
  simp only [List.drop_succ_cons, List.drop_zero, List.take_succ_cons, List.take_zero] at g3
  obtain ⟨x3, e3, _⟩ := typed_str td9 g3
  cases e3
  have g4 := hf (4, 1, 94) (by simp)
  simp only [List.drop_succ_cons, List.drop_zero, List.take_succ_cons, List.take_zero] at g4
  obtain ⟨x4, e4⟩ := inv_StrS g4
  cases e4
  have g5 := hf (5, 1, 95) (by simp)
  simp only [List.drop_succ_cons, List.drop_zero, List.take_succ_cons, List.take_zero] at g5
  obtain ⟨x5, e5⟩ := inv_FieldDefS g5
  cases e5
  have g6 := hf (6, 1, 96) (by simp)
  simp only [List.drop_succ_cons, List.drop_zero, List.take_succ_cons, List.take_zero] at g6
  obtain ⟨x6, e6⟩ := inv_InDefS g6
  cases e6
  have g7 := hf (7, 1, 97) (by simp)
  simp only [List.drop_succ_cons, List.drop_zero, List.take_succ_cons, List.take_zero] at g7
  obtain ⟨x7, e7⟩ := inv_EnumDefS g7
  cases e7
  have g8 := hf (8, 1, 23) (by simp)
  simp only [List.drop_succ_cons, List.drop_zero, List.take_succ_cons, List.take_zero] at g8
  obtain ⟨x8, e8⟩ := inv_RootS g8
  cases e8
  have g9 := hf (9, 1, 4) (by simp)
  simp only [List.drop_succ_cons, List.drop_zero, List.take_succ_cons, List.take_zero] at g9
  obtain ⟨x9, e9⟩ := typed_bool td4 g9
  cases e9
  have g10 := hf (10, 1, 53) (by simp)
  simp only [List.drop_succ_cons, List.drop_zero, List.take_succ_cons, List.take_zero] at g10
  obtain ⟨x10, e10⟩ := inv_DirS g10
  cases e10
  refine ⟨⟨x0, x1, x2, x3, x4, x5, x6, x7, x8, x9, x10⟩, ?_⟩
  simp only [tDef, encL_app, encL, encT, Md.ow_no, tStrS_len, tIntS_len, tDirS_len, tInDefS_len, tFieldDefS_len, tEnumDefS_len, tRootS_len]
theorem inv_DefS {cells : List AC} (h : Typed Tryz.prog 22 cells) : ∃ xs : List DDef, cells = [.sl .no xs.length (encR .no (tDefS xs))] := by
  obtain ⟨n, cs, rfl, h1, h2⟩ := typed_slice td22 h
  rw [sz99] at h1 h2
  obtain ⟨xs, h3, h4⟩ := list_of (tr := tDef) h1 (fun i hi => inv_Def (h2 i hi))
  exact ⟨xs, by rw [h3, h4, tDefS_map]⟩
theorem inv_Schema {cells : List AC} (h : Typed Tryz.prog 25 cells) : ∃ x : DSchema, cells = encL .no (tSchema x) := by
  obtain ⟨hl, hf⟩ := typed_fields td25 h
  rw [sz25] at hl
  obtain ⟨c0, r0, rfl, hl0⟩ := len_cons hl
  obtain ⟨c1, r1, rfl, hl1⟩ := len_cons hl0
  obtain ⟨c2, r2, rfl, hl2⟩ := len_cons hl1
  obtain rfl := List.eq_nil_of_length_eq_zero hl2
  have g0 := hf (0, 1, 22) (by simp)
  simp only [List.drop_succ_cons, List.drop_zero, List.take_succ_cons, List.take_zero] at g0
  obtain ⟨x0, e0⟩ := inv_DefS g0
  cases e0
  have g1 := hf (1, 1, 22) (by simp)
  simp only [List.drop_succ_cons, List.drop_zero, List.take_succ_cons, List.take_zero] at g1
  obtain ⟨x1, e1⟩ := inv_DefS g1
  cases e1
  have g2 := hf (2, 1, 23) (by simp)
  simp only [List.drop_succ_cons, List.drop_zero, List.take_succ_cons, List.take_zero] at g2
  obtain ⟨x2, e2⟩ := inv_RootS g2
  cases e2
  refine ⟨⟨x0, x1, x2⟩, ?_⟩
  simp only [tSchema, encL_app, encL, encT, Md.ow_no, tStrS_len, tIntS_len, tRootS_len, tDefS_len]
theorem inv_Sel_rec : ∀ N : Nat, (∀ cells, SizeOf.sizeOf cells < N → Typed Tryz.prog 55 cells → ∃ x : DSel, cells = encL .no (tSel x)) ∧ (∀ cells, SizeOf.sizeOf cells < N → Typed Tryz.prog 26 cells → ∃ xs : List DSel, cells = [.sl .no xs.length (encR .no (tSelS xs))]) := by
  intro N
  induction N with
  | zero => exact ⟨fun _ h => by omega, fun _ h => by omega⟩
  | succ N ih =>
  refine ⟨fun cells hN h => ?_, fun cells hN h => ?_⟩
  · obtain ⟨hl, hf⟩ := typed_fields td55 h
    rw [sz55] at hl
    obtain ⟨c0, r0, rfl, hl0⟩ := len_cons hl
    obtain ⟨c1, r1, rfl, hl1⟩ := len_cons hl0
    obtain ⟨c2, r2, rfl, hl2⟩ := len_cons hl1
    obtain ⟨c3, r3, rfl, hl3⟩ := len_cons hl2
    obtain ⟨c4, r4, rfl, hl4⟩ := len_cons hl3
    obtain ⟨c5, r5, rfl, hl5⟩ := len_cons hl4
    obtain ⟨c6, r6, rfl, hl6⟩ := len_cons hl5
    obtain rfl := List.eq_nil_of_length_eq_zero hl6
    have g0 := hf (0, 1, 3) (by simp)
    simp only [List.drop_succ_cons, List.drop_zero, List.take_succ_cons, List.take_zero] at g0
    obtain ⟨x0, e0, _⟩ := typed_int td3 g0
    cases e0
    have g1 := hf (1, 1, 9) (by simp)
    simp only [List.drop_succ_cons, List.drop_zero, List.take_succ_cons, List.take_zero] at g1
    obtain ⟨x1, e1, _⟩ := typed_str td9 g1
    cases e1
    have g2 := hf (2, 1, 9) (by simp)
    simp only [List.drop_succ_cons, List.drop_zero, List.take_succ_cons, List.take_zero] at g2
    obtain ⟨x2, e2, _⟩ := typed_str td9 g2
    cases e2
    have g3 := hf (3, 1, 9) (by simp)
    simp only [List.drop_succ_cons, List.drop_zero, List.take_succ_cons, List.take_zero] at g3
    obtain ⟨x3, e3, _⟩ := typed_str td9 g3
    cases e3
    have g4 := hf (4, 1, 52) (by simp)
    simp only [List.drop_succ_cons, List.drop_zero, List.take_succ_cons, List.take_zero] at g4
    obtain ⟨x4, e4⟩ := inv_ArgS g4
    cases e4
    have g5 := hf (5, 1, 53) (by simp)
    simp only [List.drop_succ_cons, List.drop_zero, List.take_succ_cons, List.take_zero] at g5
    obtain ⟨x5, e5⟩ := inv_DirS g5
    cases e5
    have g6 := hf (6, 1, 26) (by simp)
    simp only [List.drop_succ_cons, List.drop_zero, List.take_succ_cons, List.take_zero] at g6
    obtain ⟨x6, e6⟩ := ih.2 _ (by simp at hN ⊢; omega) g6
    cases e6
    refine ⟨⟨x0, x1, x2, x3, x4, x5, x6⟩, ?_⟩
    simp only [tSel, encL_app, encL, encT, Md.ow_no, tStrS_len, tIntS_len, tArgS_len, tDirS_len, tSelS_len]
  · obtain ⟨n, cs, rfl, h1, h2⟩ := typed_slice td26 h
    rw [sz55] at h1 h2
    obtain ⟨xs, h3, h4⟩ := list_of (tr := tSel) h1 (fun i hi => ih.1 _ (by have := szo_take (l := cs.drop (i * 7)) 7; have := szo_drop (l := cs) (i * 7); simp at hN; omega) (h2 i hi))
    exact ⟨xs, by rw [h3, h4, tSelS_map]⟩
theorem inv_Sel {cells : List AC} (h : Typed Tryz.prog 55 cells) : ∃ x : DSel, cells = encL .no (tSel x) := (inv_Sel_rec _).1 _ (Nat.lt_succ_self _) h
theorem inv_SelS {cells : List AC} (h : Typed Tryz.prog 26 cells) : ∃ xs : List DSel, cells = [.sl .no xs.length (encR .no (tSelS xs))] := (inv_Sel_rec _).2 _ (Nat.lt_succ_self _) h
end Go.Proofs.YthagllbnkbahnaaGreat.Abs
