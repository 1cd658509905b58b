/- PRINTED by marks.py: what the laws write, and look for. No condition. -/
import Derived.Test.YthagllbnkbahnaaGreatMk
set_option linter.unusedVariables false
set_option linter.unusedSimpArgs false
namespace Go.Proofs.YthagllbnkbahnaaGreat.Abs
open Go
set_option maxHeartbeats 2000000
set_option maxRecDepth 100000
mutual
theorem wd_Value : ∀ x : DValue, wdL (tValue x)
  | ⟨x0, x1, x2, x3⟩ => by simp [tValue, wdL, wdT, wd_ValueS x2, wd_StrS x3]
theorem wd_ValueS : ∀ xs : List DValue, wdR (tValueS xs)
  | [] => by simp [tValueS, wdR]
  | x :: xs => by simp only [tValueS, wdR]; exact ⟨by rw [tValue_len]; omega, wd_Value x, wd_ValueS xs⟩
end
theorem cn_ValueS (xs : List DValue) : cnR (tValueS xs) ≤ 40 * (xs.length + szR (tValueS xs)) := by
  have := cnR_le _ (wd_ValueS xs); rwa [tValueS_len] at this
theorem wd_Type : ∀ x : DType, wdL (tType x)
  | ⟨x0, x1⟩ => by simp [tType, wdL, wdT]
theorem wd_TypeS : ∀ xs : List DType, wdR (tTypeS xs)
  | [] => by simp [tTypeS, wdR]
  | x :: xs => by simp only [tTypeS, wdR]; exact ⟨by rw [tType_len]; omega, wd_Type x, wd_TypeS xs⟩
theorem cn_TypeS (xs : List DType) : cnR (tTypeS xs) ≤ 40 * (xs.length + szR (tTypeS xs)) := by
  have := cnR_le _ (wd_TypeS xs); rwa [tTypeS_len] at this
theorem wd_Arg : ∀ x : DArg, wdL (tArg x)
  | ⟨x0, ⟨x1, x2, x3, x4⟩⟩ => by simp [tArg, tValue, wdL, wdT, wd_ValueS x3, wd_StrS x4]
theorem wd_ArgS : ∀ xs : List DArg, wdR (tArgS xs)
  | [] => by simp [tArgS, wdR]
  | x :: xs => by simp only [tArgS, wdR]; exact ⟨by rw [tArg_len]; omega, wd_Arg x, wd_ArgS xs⟩
theorem cn_ArgS (xs : List DArg) : cnR (tArgS xs) ≤ 40 * (xs.length + szR (tArgS xs)) := by
  have := cnR_le _ (wd_ArgS xs); rwa [tArgS_len] at this
theorem wd_Dir : ∀ x : DDir, wdL (tDir x)
  | ⟨x0, x1⟩ => by simp [tDir, wdL, wdT, wd_ArgS x1]
theorem wd_DirS : ∀ xs : List DDir, wdR (tDirS xs)
  | [] => by simp [tDirS, wdR]
  | x :: xs => by simp only [tDirS, wdR]; exact ⟨by rw [tDir_len]; omega, wd_Dir x, wd_DirS xs⟩
theorem cn_DirS (xs : List DDir) : cnR (tDirS xs) ≤ 40 * (xs.length + szR (tDirS xs)) := by
  have := cnR_le _ (wd_DirS xs); rwa [tDirS_len] at this
mutual
theorem wd_Sel : ∀ x : DSel, wdL (tSel x)
  | ⟨x0, x1, x2, x3, x4, x5, x6⟩ => by simp [tSel, wdL, wdT, wd_ArgS x4, wd_DirS x5, wd_SelS x6]
theorem wd_SelS : ∀ xs : List DSel, wdR (tSelS xs)
  | [] => by simp [tSelS, wdR]
  | x :: xs => by simp only [tSelS, wdR]; exact ⟨by rw [tSel_len]; omega, wd_Sel x, wd_SelS xs⟩
end
theorem cn_SelS (xs : List DSel) : cnR (tSelS xs) ≤ 40 * (xs.length + szR (tSelS xs)) := by
  have := cnR_le _ (wd_SelS xs); rwa [tSelS_len] at this
theorem wd_InDef : ∀ x : DInDef, wdL (tInDef x)
  | ⟨x0, x1, ⟨x2, x3⟩, x4, ⟨x5, x6, x7, x8⟩, x9⟩ => by simp [tInDef, tType, tValue, wdL, wdT, wd_ValueS x7, wd_StrS x8, wd_DirS x9]
theorem wd_InDefS : ∀ xs : List DInDef, wdR (tInDefS xs)
  | [] => by simp [tInDefS, wdR]
  | x :: xs => by simp only [tInDefS, wdR]; exact ⟨by rw [tInDef_len]; omega, wd_InDef x, wd_InDefS xs⟩
theorem cn_InDefS (xs : List DInDef) : cnR (tInDefS xs) ≤ 40 * (xs.length + szR (tInDefS xs)) := by
  have := cnR_le _ (wd_InDefS xs); rwa [tInDefS_len] at this
theorem wd_FieldDef : ∀ x : DFieldDef, wdL (tFieldDef x)
  | ⟨x0, x1, x2, ⟨x3, x4⟩, x5⟩ => by simp [tFieldDef, tType, wdL, wdT, wd_InDefS x2, wd_DirS x5]
theorem wd_FieldDefS : ∀ xs : List DFieldDef, wdR (tFieldDefS xs)
  | [] => by simp [tFieldDefS, wdR]
  | x :: xs => by simp only [tFieldDefS, wdR]; exact ⟨by rw [tFieldDef_len]; omega, wd_FieldDef x, wd_FieldDefS xs⟩
theorem cn_FieldDefS (xs : List DFieldDef) : cnR (tFieldDefS xs) ≤ 40 * (xs.length + szR (tFieldDefS xs)) := by
  have := cnR_le _ (wd_FieldDefS xs); rwa [tFieldDefS_len] at this
theorem wd_EnumDef : ∀ x : DEnumDef, wdL (tEnumDef x)
  | ⟨x0, x1, x2⟩ => by simp [tEnumDef, wdL, wdT, wd_DirS x2]
theorem wd_EnumDefS : ∀ xs : List DEnumDef, wdR (tEnumDefS xs)
  | [] => by simp [tEnumDefS, wdR]
  | x :: xs => by simp only [tEnumDefS, wdR]; exact ⟨by rw [tEnumDef_len]; omega, wd_EnumDef x, wd_EnumDefS xs⟩
theorem cn_EnumDefS (xs : List DEnumDef) : cnR (tEnumDefS xs) ≤ 40 * (xs.length + szR (tEnumDefS xs)) := by
  have := cnR_le _ (wd_EnumDefS xs); rwa [tEnumDefS_len] at this
theorem wd_Root : ∀ x : DRoot, wdL (tRoot x)
  | ⟨x0, x1⟩ => by simp [tRoot, wdL, wdT]
theorem wd_RootS : ∀ xs : List DRoot, wdR (tRootS xs)
  | [] => by simp [tRootS, wdR]
  | x :: xs => by simp only [tRootS, wdR]; exact ⟨by rw [tRoot_len]; omega, wd_Root x, wd_RootS xs⟩
theorem cn_RootS (xs : List DRoot) : cnR (tRootS xs) ≤ 40 * (xs.length + szR (tRootS xs)) := by
  have := cnR_le _ (wd_RootS xs); rwa [tRootS_len] at this
theorem wd_Def : ∀ x : DDef, wdL (tDef x)
  | ⟨x0, x1, x2, x3, x4, x5, x6, x7, x8, x9, x10⟩ => by simp [tDef, wdL, wdT, wd_StrS x4, wd_FieldDefS x5, wd_InDefS x6, wd_EnumDefS x7, wd_RootS x8, wd_DirS x10]
theorem wd_DefS : ∀ xs : List DDef, wdR (tDefS xs)
  | [] => by simp [tDefS, wdR]
  | x :: xs => by simp only [tDefS, wdR]; exact ⟨by rw [tDef_len]; omega, wd_Def x, wd_DefS xs⟩
theorem cn_DefS (xs : List DDef) : cnR (tDefS xs) ≤ 40 * (xs.length + szR (tDefS xs)) := by
  have := cnR_le _ (wd_DefS xs); rwa [tDefS_len] at this
theorem wd_Schema : ∀ x : DSchema, wdL (tSchema x)
  | ⟨x0, x1, x2⟩ => by simp [tSchema, wdL, wdT, wd_DefS x0, wd_DefS x1, wd_RootS x2]
theorem wd_SchemaS : ∀ xs : List DSchema, wdR (tSchemaS xs)
  | [] => by simp [tSchemaS, wdR]
  | x :: xs => by simp only [tSchemaS, wdR]; exact ⟨by rw [tSchema_len]; omega, wd_Schema x, wd_SchemaS xs⟩
theorem cn_SchemaS (xs : List DSchema) : cnR (tSchemaS xs) ≤ 40 * (xs.length + szR (tSchemaS xs)) := by
  have := cnR_le _ (wd_SchemaS xs); rwa [tSchemaS_len] at this
theorem wd_Use : ∀ x : DUse, wdL (tUse x)
  | ⟨x0, ⟨x1, x2⟩, x3, x4⟩ => by simp [tUse, tType, wdL, wdT]
theorem wd_UseS : ∀ xs : List DUse, wdR (tUseS xs)
  | [] => by simp [tUseS, wdR]
  | x :: xs => by simp only [tUseS, wdR]; exact ⟨by rw [tUse_len]; omega, wd_Use x, wd_UseS xs⟩
theorem cn_UseS (xs : List DUse) : cnR (tUseS xs) ≤ 40 * (xs.length + szR (tUseS xs)) := by
  have := cnR_le _ (wd_UseS xs); rwa [tUseS_len] at this
theorem wd_Place : ∀ x : DPlace, wdL (tPlace x)
  | ⟨x0, ⟨x1, x2, x3, x4, x5, x6, x7⟩⟩ => by simp [tPlace, tSel, wdL, wdT, wd_ArgS x5, wd_DirS x6, wd_SelS x7]
theorem wd_PlaceS : ∀ xs : List DPlace, wdR (tPlaceS xs)
  | [] => by simp [tPlaceS, wdR]
  | x :: xs => by simp only [tPlaceS, wdR]; exact ⟨by rw [tPlace_len]; omega, wd_Place x, wd_PlaceS xs⟩
theorem cn_PlaceS (xs : List DPlace) : cnR (tPlaceS xs) ≤ 40 * (xs.length + szR (tPlaceS xs)) := by
  have := cnR_le _ (wd_PlaceS xs); rwa [tPlaceS_len] at this
theorem c_heldStringS (xs : List Bs) (k : Int) (K : List (List (List AC))) (h1 : 0 ≤ k) (h2 : k + cnR (tStrS xs) < 1000000000000000000) : Ct Tryz.prog 89 [.sl .no xs.length (encR .no (mkR (tStrS xs) k)), .int .i64 k] K (.int .i64 (k + cnR (tStrS xs))) K := by
  refine ct_fn { n0 := 6, ex := [], tk := [] } Tryz.func89 rfl (by kernel_rfl) (by kernel_rfl) rfl ?_
  simp -implicitDefEqProofs [Tryz.f89]
  obtain ⟨I, hI⟩ : ∃ I : Nat → St → Prop, ∀ m s, I m s ↔ ∃ i, i ≤ xs.length ∧ m = xs.length - i ∧
    s = { env := [(0, .sl .no xs.length (encR .no (mkR (tStrS xs) k))), (1, .int .i64 (at_ (tStrS xs) k i)), (4, .int .i64 0), (5, .int .i64 i)], loc := [], K := [] :: K } := ⟨_, fun _ _ => Iff.rfl⟩
  refine wC_loopI I xs.length ((hI _ _).2 ⟨0, by omega, rfl, rfl⟩) (St.le_of (by simp) (by simp [at_zero]) rfl rfl) ?_
  intro m s hs
  obtain ⟨i, hi, rfl, rfl⟩ := (hI _ _).1 hs
  rcases Nat.lt_or_ge i xs.length with hlt | hge
  · obtain ⟨x, hx⟩ : ∃ x, xs[i]? = some x := ⟨_, List.getElem?_eq_getElem hlt⟩
    have hr := tStrS_get hx
    have hel : (encR .no (mkR (tStrS xs) k)).length = xs.length * 1 := by rw [encMk_len (w := 1) tStrS_rows, tStrS_len]
    skip
    skip
    have ea := row_at (m := .no) (mkR_rows (k := k) tStrS_rows) (mkR_get (k := k) hr)
    have hsucc := at_succ (k := k) hr
    have hbnd := at_bnd (k := k) hr
    generalize hat : at_ (tStrS xs) k i = n at *
    simp only [encL, encT, cnL, cnT, mkL, mkT, mkR_len, Md.ow_no, Nat.mul_one, Nat.add_zero, List.cons_append, List.nil_append] at ea hsucc hbnd hel ⊢
    simp -implicitDefEqProofs [hlt, ea, hel]
    intro hm
    unfold maxLen at hm
    try simp (disch := omega) only [wrap64, Int.tmod_eq_emod_of_nonneg]
    refine wRun_draw true rfl (by decide +kernel) ?_
    simp -implicitDefEqProofs [hlt, ea, hel]
    try simp (disch := omega) only [wrap64, Int.tmod_eq_emod_of_nonneg]
    refine callK_of (c_markText _ _ ?_ ?_) ?_
    · omega
    · omega
    simp -implicitDefEqProofs [hlt, ea, hel]
    try simp (disch := omega) only [wrap64, Int.tmod_eq_emod_of_nonneg]
    try simp only [not_true_eq_false, false_implies, true_implies, true_and]
    try simp -implicitDefEqProofs [hlt, ea, hel]
    have hs2 : at_ (tStrS xs) k (i + 1) = n + 1 := by omega
    refine ⟨xs.length - (i + 1), by omega, _, St.le_of (by simp) (by simp [St.trunc, look, mapV, mapC, killP, hs2]) rfl (by simp [St.trunc, mapC]), (hI _ _).2 ⟨i + 1, by omega, rfl, rfl⟩⟩
  · have e : i = xs.length := by omega
    subst e
    have e1 : at_ (tStrS xs) k xs.length = k + cnR (tStrS xs) := by have := at_all (rows := tStrS xs) (k := k); rwa [tStrS_len] at this
    simp -implicitDefEqProofs [e1]
theorem c_markValueS_rec : ∀ N : Nat, ∀ (xs : List DValue) (k : Int) (K : List (List (List AC))) (h1 : 0 ≤ k) (h2 : k + cnR (tValueS xs) < 1000000000000000000) (hN : SizeOf.sizeOf xs < N), CtB Tryz.prog 81 [.sl (.ex 122) xs.length (encR .ex (tValueS xs)), .int .i64 k] K (.int .i64 (k + cnR (tValueS xs))) K (.sl (.ex 122) xs.length (encR .ex (mkR (tValueS xs) k))) := by
  intro N
  induction N with
  | zero => intros; omega
  | succ N ih =>
  intro xs k K h1 h2 hN
  refine ct_fnB { n0 := 6, ex := [], tk := [], es := true, bw := [81, 77] } Tryz.func81 rfl (by kernel_rfl) (by kernel_rfl) rfl (fun y => ?_)
  simp -implicitDefEqProofs [Tryz.f81]
  obtain ⟨I, hI⟩ : ∃ I : Nat → St → Prop, ∀ m s, I m s ↔ ∃ i, i ≤ xs.length ∧ m = xs.length - i ∧
    s = { env := [(0, .nam y (.sl (.ex 122) xs.length (encR .ex (part (tValueS xs) k i)))), (1, .int .i64 (at_ (tValueS xs) k i)), (4, .int .i64 0), (5, .int .i64 i)], loc := [], K := [] :: K } := ⟨_, fun _ _ => Iff.rfl⟩
  refine wC_loopI I xs.length ((hI _ _).2 ⟨0, by omega, rfl, rfl⟩) (St.le_of (by simp) (by simp [part_zero, at_zero]) rfl rfl) ?_
  intro m s hs
  obtain ⟨i, hi, rfl, rfl⟩ := (hI _ _).1 hs
  rcases Nat.lt_or_ge i xs.length with hlt | hge
  · obtain ⟨x, hx⟩ : ∃ x, xs[i]? = some x := ⟨_, List.getElem?_eq_getElem hlt⟩
    have hr := tValueS_get hx
    have hpl : (pre (tValueS xs) k i).length = i * 4 := pre_len (w := 4) tValueS_rows (by simp; omega)
    obtain ⟨x0, x1, x2, x3⟩ := x
    simp only [tValue, List.cons_append, List.nil_append] at hr
    rw [part_at hr]
    have hnext := part_next (k := k) hr
    have hsucc := at_succ (k := k) hr
    have hbnd := at_bnd (k := k) hr
    generalize hat : at_ (tValueS xs) k i = n at *
    simp only [encL, encT, cnL, cnT, mkL, mkT, mkR_len, Md.ow_ex, Nat.add_zero, List.cons_append, List.nil_append, tValueS_len, tStrS_len] at hnext hsucc hbnd ⊢
    simp -implicitDefEqProofs [hlt, -putCells, Nat.add_assoc, put_app hpl, put_app0 hpl, len_app hpl, td_app hpl, td_app0 hpl, get_app hpl, get_app0 hpl, getE_app hpl, getE_app0 hpl, set_app hpl, set_app0 hpl]
    intro hm
    unfold maxLen at hm
    try simp (disch := omega) only [wrap64, Int.tmod_eq_emod_of_nonneg]
    repeat refine And.intro (by omega) ?_
    refine callK_of (c_markText _ _ ?_ ?_) ?_
    · omega
    · omega
    simp -implicitDefEqProofs [hlt, -putCells, Nat.add_assoc, put_app hpl, put_app0 hpl, len_app hpl, td_app hpl, td_app0 hpl, get_app hpl, get_app0 hpl, getE_app hpl, getE_app0 hpl, set_app hpl, set_app0 hpl]
    try simp (disch := omega) only [wrap64, Int.tmod_eq_emod_of_nonneg]
    repeat refine And.intro (by omega) ?_
    intro z2
    refine endB_of (ih x2 _ _ ?_ ?_ (by have h5 := List.sizeOf_lt_of_mem (List.mem_of_getElem? hx); simp at h5; omega)) (by simp) ?_
    · omega
    · omega
    simp -implicitDefEqProofs [hlt, -putCells, Nat.add_assoc, put_app hpl, put_app0 hpl, len_app hpl, td_app hpl, td_app0 hpl, get_app hpl, get_app0 hpl, getE_app hpl, getE_app0 hpl, set_app hpl, set_app0 hpl]
    try simp (disch := omega) only [wrap64, Int.tmod_eq_emod_of_nonneg]
    repeat refine And.intro (by omega) ?_
    intro z3
    refine endB_of (c_markStringS x3 _ _ ?_ ?_) (by simp) ?_
    · omega
    · omega
    simp -implicitDefEqProofs [hlt, -putCells, Nat.add_assoc, put_app hpl, put_app0 hpl, len_app hpl, td_app hpl, td_app0 hpl, get_app hpl, get_app0 hpl, getE_app hpl, getE_app0 hpl, set_app hpl, set_app0 hpl]
    try simp (disch := omega) only [wrap64, Int.tmod_eq_emod_of_nonneg]
    repeat refine And.intro (by omega) ?_
    simp only [Int.cast_ofNat_Int] at hnext
    have hs2 : at_ (tValueS xs) k (i + 1) = n + 1 + 1 + (cnR (tValueS x2) : Nat) + (cnR (tStrS x3) : Nat) := by omega
    refine ⟨xs.length - (i + 1), by omega, _, St.le_of (by simp) (by simp [St.trunc, look, mapV, mapC, killP, hnext, hs2]) rfl (by simp [St.trunc, mapC]), (hI _ _).2 ⟨i + 1, by omega, rfl, rfl⟩⟩
  · have e : i = xs.length := by omega
    subst e
    have e1 : at_ (tValueS xs) k xs.length = k + cnR (tValueS xs) := by have := at_all (rows := tValueS xs) (k := k); rwa [tValueS_len] at this
    have e2 : part (tValueS xs) k xs.length = mkR (tValueS xs) k := by have := part_all (rows := tValueS xs) (k := k); rwa [tValueS_len] at this
    simp -implicitDefEqProofs [e1, e2]
theorem c_markValueS (xs : List DValue) (k : Int) (K : List (List (List AC))) (h1 : 0 ≤ k) (h2 : k + cnR (tValueS xs) < 1000000000000000000) : CtB Tryz.prog 81 [.sl (.ex 122) xs.length (encR .ex (tValueS xs)), .int .i64 k] K (.int .i64 (k + cnR (tValueS xs))) K (.sl (.ex 122) xs.length (encR .ex (mkR (tValueS xs) k))) := c_markValueS_rec _ xs k K h1 h2 (Nat.lt_succ_self _)
theorem c_heldValueS_rec : ∀ N : Nat, ∀ (xs : List DValue) (k : Int) (K : List (List (List AC))) (h1 : 0 ≤ k) (h2 : k + cnR (tValueS xs) < 1000000000000000000) (hN : SizeOf.sizeOf xs < N), Ct Tryz.prog 88 [.sl .no xs.length (encR .no (mkR (tValueS xs) k)), .int .i64 k] K (.int .i64 (k + cnR (tValueS xs))) K := by
  intro N
  induction N with
  | zero => intros; omega
  | succ N ih =>
  intro xs k K h1 h2 hN
  refine ct_fn { n0 := 6, ex := [], tk := [] } Tryz.func88 rfl (by kernel_rfl) (by kernel_rfl) rfl ?_
  simp -implicitDefEqProofs [Tryz.f88]
  obtain ⟨I, hI⟩ : ∃ I : Nat → St → Prop, ∀ m s, I m s ↔ ∃ i, i ≤ xs.length ∧ m = xs.length - i ∧
    s = { env := [(0, .sl .no xs.length (encR .no (mkR (tValueS xs) k))), (1, .int .i64 (at_ (tValueS xs) k i)), (4, .int .i64 0), (5, .int .i64 i)], loc := [], K := [] :: K } := ⟨_, fun _ _ => Iff.rfl⟩
  refine wC_loopI I xs.length ((hI _ _).2 ⟨0, by omega, rfl, rfl⟩) (St.le_of (by simp) (by simp [at_zero]) rfl rfl) ?_
  intro m s hs
  obtain ⟨i, hi, rfl, rfl⟩ := (hI _ _).1 hs
  rcases Nat.lt_or_ge i xs.length with hlt | hge
  · obtain ⟨x, hx⟩ : ∃ x, xs[i]? = some x := ⟨_, List.getElem?_eq_getElem hlt⟩
    have hr := tValueS_get hx
    have hel : (encR .no (mkR (tValueS xs) k)).length = xs.length * 4 := by rw [encMk_len (w := 4) tValueS_rows, tValueS_len]
    obtain ⟨x0, x1, x2, x3⟩ := x
    simp only [tValue, List.cons_append, List.nil_append] at hr
    have ea := row_at (m := .no) (mkR_rows (k := k) tValueS_rows) (mkR_get (k := k) hr)
    have hsucc := at_succ (k := k) hr
    have hbnd := at_bnd (k := k) hr
    generalize hat : at_ (tValueS xs) k i = n at *
    simp only [encL, encT, cnL, cnT, mkL, mkT, mkR_len, Md.ow_no, Nat.mul_one, Nat.add_zero, List.cons_append, List.nil_append, tValueS_len, tStrS_len] at ea hsucc hbnd hel ⊢
    simp -implicitDefEqProofs [hlt, ea, hel]
    intro hm
    unfold maxLen at hm
    try simp (disch := omega) only [wrap64, Int.tmod_eq_emod_of_nonneg]
    refine wRun_draw true rfl (by decide +kernel) ?_
    simp -implicitDefEqProofs [hlt, ea, hel]
    try simp (disch := omega) only [wrap64, Int.tmod_eq_emod_of_nonneg]
    refine callK_of (c_markText _ _ ?_ ?_) ?_
    · omega
    · omega
    simp -implicitDefEqProofs [hlt, ea, hel]
    try simp (disch := omega) only [wrap64, Int.tmod_eq_emod_of_nonneg]
    try simp only [not_true_eq_false, false_implies, true_implies, true_and]
    have hc2 := ih x2
    refine callK_of (ih x2 _ _ ?_ ?_ (by have h5 := List.sizeOf_lt_of_mem (List.mem_of_getElem? hx); simp at h5; omega)) ?_
    · omega
    · omega
    simp -implicitDefEqProofs [hlt, ea, hel]
    try simp (disch := omega) only [wrap64, Int.tmod_eq_emod_of_nonneg]
    refine ⟨fun h => by omega, fun _ => ?_⟩
    try simp (disch := omega) only [wrap64, Int.tmod_eq_emod_of_nonneg]
    have hc3 := c_heldStringS x3
    refine callK_of (c_heldStringS x3 _ _ ?_ ?_) ?_
    · omega
    · omega
    simp -implicitDefEqProofs [hlt, ea, hel]
    try simp (disch := omega) only [wrap64, Int.tmod_eq_emod_of_nonneg]
    refine ⟨fun h => by omega, fun _ => ?_⟩
    try simp (disch := omega) only [wrap64, Int.tmod_eq_emod_of_nonneg]
    try simp -implicitDefEqProofs [hlt, ea, hel]
    have hs2 : at_ (tValueS xs) k (i + 1) = n + 1 + 1 + (cnR (tValueS x2) : Nat) + (cnR (tStrS x3) : Nat) := by omega
    refine ⟨xs.length - (i + 1), by omega, _, St.le_of (by simp) (by simp [St.trunc, look, mapV, mapC, killP, hs2]) rfl (by simp [St.trunc, mapC]), (hI _ _).2 ⟨i + 1, by omega, rfl, rfl⟩⟩
  · have e : i = xs.length := by omega
    subst e
    have e1 : at_ (tValueS xs) k xs.length = k + cnR (tValueS xs) := by have := at_all (rows := tValueS xs) (k := k); rwa [tValueS_len] at this
    simp -implicitDefEqProofs [e1]
theorem c_heldValueS (xs : List DValue) (k : Int) (K : List (List (List AC))) (h1 : 0 ≤ k) (h2 : k + cnR (tValueS xs) < 1000000000000000000) : Ct Tryz.prog 88 [.sl .no xs.length (encR .no (mkR (tValueS xs) k)), .int .i64 k] K (.int .i64 (k + cnR (tValueS xs))) K := c_heldValueS_rec _ xs k K h1 h2 (Nat.lt_succ_self _)
theorem c_markArgS (xs : List DArg) (k : Int) (K : List (List (List AC))) (h1 : 0 ≤ k) (h2 : k + cnR (tArgS xs) < 1000000000000000000) : CtB Tryz.prog 40 [.sl (.ex 124) xs.length (encR .ex (tArgS xs)), .int .i64 k] K (.int .i64 (k + cnR (tArgS xs))) K (.sl (.ex 124) xs.length (encR .ex (mkR (tArgS xs) k))) := by
  refine ct_fnB { n0 := 6, ex := [], tk := [], es := true, bw := [81, 77] } Tryz.func40 rfl (by kernel_rfl) (by kernel_rfl) rfl (fun y => ?_)
  simp -implicitDefEqProofs [Tryz.f40]
  obtain ⟨I, hI⟩ : ∃ I : Nat → St → Prop, ∀ m s, I m s ↔ ∃ i, i ≤ xs.length ∧ m = xs.length - i ∧
    s = { env := [(0, .nam y (.sl (.ex 124) xs.length (encR .ex (part (tArgS xs) k i)))), (1, .int .i64 (at_ (tArgS xs) k i)), (4, .int .i64 0), (5, .int .i64 i)], loc := [], K := [] :: K } := ⟨_, fun _ _ => Iff.rfl⟩
  refine wC_loopI I xs.length ((hI _ _).2 ⟨0, by omega, rfl, rfl⟩) (St.le_of (by simp) (by simp [part_zero, at_zero]) rfl rfl) ?_
  intro m s hs
  obtain ⟨i, hi, rfl, rfl⟩ := (hI _ _).1 hs
  rcases Nat.lt_or_ge i xs.length with hlt | hge
  · obtain ⟨x, hx⟩ : ∃ x, xs[i]? = some x := ⟨_, List.getElem?_eq_getElem hlt⟩
    have hr := tArgS_get hx
    have hpl : (pre (tArgS xs) k i).length = i * 5 := pre_len (w := 5) tArgS_rows (by simp; omega)
    obtain ⟨x0, ⟨x1, x2, x3, x4⟩⟩ := x
    simp only [tArg, tValue, List.cons_append, List.nil_append] at hr
    rw [part_at hr]
    have hnext := part_next (k := k) hr
    have hsucc := at_succ (k := k) hr
    have hbnd := at_bnd (k := k) hr
    generalize hat : at_ (tArgS xs) k i = n at *
    simp only [encL, encT, cnL, cnT, mkL, mkT, mkR_len, Md.ow_ex, Nat.add_zero, List.cons_append, List.nil_append, tValueS_len, tStrS_len] at hnext hsucc hbnd ⊢
    simp -implicitDefEqProofs [hlt, -putCells, Nat.add_assoc, put_app hpl, put_app0 hpl, len_app hpl, td_app hpl, td_app0 hpl, get_app hpl, get_app0 hpl, getE_app hpl, getE_app0 hpl, set_app hpl, set_app0 hpl]
    intro hm
    unfold maxLen at hm
    try simp (disch := omega) only [wrap64, Int.tmod_eq_emod_of_nonneg]
    repeat refine And.intro (by omega) ?_
    refine callK_of (c_markText _ _ ?_ ?_) ?_
    · omega
    · omega
    simp -implicitDefEqProofs [hlt, -putCells, Nat.add_assoc, put_app hpl, put_app0 hpl, len_app hpl, td_app hpl, td_app0 hpl, get_app hpl, get_app0 hpl, getE_app hpl, getE_app0 hpl, set_app hpl, set_app0 hpl]
    try simp (disch := omega) only [wrap64, Int.tmod_eq_emod_of_nonneg]
    repeat refine And.intro (by omega) ?_
    refine callK_of (c_markText _ _ ?_ ?_) ?_
    · omega
    · omega
    simp -implicitDefEqProofs [hlt, -putCells, Nat.add_assoc, put_app hpl, put_app0 hpl, len_app hpl, td_app hpl, td_app0 hpl, get_app hpl, get_app0 hpl, getE_app hpl, getE_app0 hpl, set_app hpl, set_app0 hpl]
    try simp (disch := omega) only [wrap64, Int.tmod_eq_emod_of_nonneg]
    repeat refine And.intro (by omega) ?_
    intro z3
    refine endB_of (c_markValueS x3 _ _ ?_ ?_) (by simp) ?_
    · omega
    · omega
    simp -implicitDefEqProofs [hlt, -putCells, Nat.add_assoc, put_app hpl, put_app0 hpl, len_app hpl, td_app hpl, td_app0 hpl, get_app hpl, get_app0 hpl, getE_app hpl, getE_app0 hpl, set_app hpl, set_app0 hpl]
    try simp (disch := omega) only [wrap64, Int.tmod_eq_emod_of_nonneg]
    repeat refine And.intro (by omega) ?_
    intro z4
    refine endB_of (c_markStringS x4 _ _ ?_ ?_) (by simp) ?_
    · omega
    · omega
    simp -implicitDefEqProofs [hlt, -putCells, Nat.add_assoc, put_app hpl, put_app0 hpl, len_app hpl, td_app hpl, td_app0 hpl, get_app hpl, get_app0 hpl, getE_app hpl, getE_app0 hpl, set_app hpl, set_app0 hpl]
    try simp (disch := omega) only [wrap64, Int.tmod_eq_emod_of_nonneg]
    repeat refine And.intro (by omega) ?_
    simp only [Int.cast_ofNat_Int] at hnext
    have hs2 : at_ (tArgS xs) k (i + 1) = n + 1 + 1 + 1 + (cnR (tValueS x3) : Nat) + (cnR (tStrS x4) : Nat) := by omega
    refine ⟨xs.length - (i + 1), by omega, _, St.le_of (by simp) (by simp [St.trunc, look, mapV, mapC, killP, hnext, hs2]) rfl (by simp [St.trunc, mapC]), (hI _ _).2 ⟨i + 1, by omega, rfl, rfl⟩⟩
  · have e : i = xs.length := by omega
    subst e
    have e1 : at_ (tArgS xs) k xs.length = k + cnR (tArgS xs) := by have := at_all (rows := tArgS xs) (k := k); rwa [tArgS_len] at this
    have e2 : part (tArgS xs) k xs.length = mkR (tArgS xs) k := by have := part_all (rows := tArgS xs) (k := k); rwa [tArgS_len] at this
    simp -implicitDefEqProofs [e1, e2]
theorem c_heldArgS (xs : List DArg) (k : Int) (K : List (List (List AC))) (h1 : 0 ≤ k) (h2 : k + cnR (tArgS xs) < 1000000000000000000) : Ct Tryz.prog 51 [.sl .no xs.length (encR .no (mkR (tArgS xs) k)), .int .i64 k] K (.int .i64 (k + cnR (tArgS xs))) K := by
  refine ct_fn { n0 := 6, ex := [], tk := [] } Tryz.func51 rfl (by kernel_rfl) (by kernel_rfl) rfl ?_
  simp -implicitDefEqProofs [Tryz.f51]
  obtain ⟨I, hI⟩ : ∃ I : Nat → St → Prop, ∀ m s, I m s ↔ ∃ i, i ≤ xs.length ∧ m = xs.length - i ∧
    s = { env := [(0, .sl .no xs.length (encR .no (mkR (tArgS xs) k))), (1, .int .i64 (at_ (tArgS xs) k i)), (4, .int .i64 0), (5, .int .i64 i)], loc := [], K := [] :: K } := ⟨_, fun _ _ => Iff.rfl⟩
  refine wC_loopI I xs.length ((hI _ _).2 ⟨0, by omega, rfl, rfl⟩) (St.le_of (by simp) (by simp [at_zero]) rfl rfl) ?_
  intro m s hs
  obtain ⟨i, hi, rfl, rfl⟩ := (hI _ _).1 hs
  rcases Nat.lt_or_ge i xs.length with hlt | hge
  · obtain ⟨x, hx⟩ : ∃ x, xs[i]? = some x := ⟨_, List.getElem?_eq_getElem hlt⟩
    have hr := tArgS_get hx
    have hel : (encR .no (mkR (tArgS xs) k)).length = xs.length * 5 := by rw [encMk_len (w := 5) tArgS_rows, tArgS_len]
    obtain ⟨x0, ⟨x1, x2, x3, x4⟩⟩ := x
    simp only [tArg, tValue, List.cons_append, List.nil_append] at hr
    have ea := row_at (m := .no) (mkR_rows (k := k) tArgS_rows) (mkR_get (k := k) hr)
    have hsucc := at_succ (k := k) hr
    have hbnd := at_bnd (k := k) hr
    generalize hat : at_ (tArgS xs) k i = n at *
    simp only [encL, encT, cnL, cnT, mkL, mkT, mkR_len, Md.ow_no, Nat.mul_one, Nat.add_zero, List.cons_append, List.nil_append, tValueS_len, tStrS_len] at ea hsucc hbnd hel ⊢
    simp -implicitDefEqProofs [hlt, ea, hel]
    intro hm
    unfold maxLen at hm
    try simp (disch := omega) only [wrap64, Int.tmod_eq_emod_of_nonneg]
    refine wRun_draw true rfl (by decide +kernel) ?_
    simp -implicitDefEqProofs [hlt, ea, hel]
    try simp (disch := omega) only [wrap64, Int.tmod_eq_emod_of_nonneg]
    refine callK_of (c_markText _ _ ?_ ?_) ?_
    · omega
    · omega
    simp -implicitDefEqProofs [hlt, ea, hel]
    try simp (disch := omega) only [wrap64, Int.tmod_eq_emod_of_nonneg]
    try simp only [not_true_eq_false, false_implies, true_implies, true_and]
    refine wRun_draw true rfl (by decide +kernel) ?_
    simp -implicitDefEqProofs [hlt, ea, hel]
    try simp (disch := omega) only [wrap64, Int.tmod_eq_emod_of_nonneg]
    refine callK_of (c_markText _ _ ?_ ?_) ?_
    · omega
    · omega
    simp -implicitDefEqProofs [hlt, ea, hel]
    try simp (disch := omega) only [wrap64, Int.tmod_eq_emod_of_nonneg]
    try simp only [not_true_eq_false, false_implies, true_implies, true_and]
    have hc3 := c_heldValueS x3
    refine callK_of (c_heldValueS x3 _ _ ?_ ?_) ?_
    · omega
    · omega
    simp -implicitDefEqProofs [hlt, ea, hel]
    try simp (disch := omega) only [wrap64, Int.tmod_eq_emod_of_nonneg]
    refine ⟨fun h => by omega, fun _ => ?_⟩
    try simp (disch := omega) only [wrap64, Int.tmod_eq_emod_of_nonneg]
    have hc4 := c_heldStringS x4
    refine callK_of (c_heldStringS x4 _ _ ?_ ?_) ?_
    · omega
    · omega
    simp -implicitDefEqProofs [hlt, ea, hel]
    try simp (disch := omega) only [wrap64, Int.tmod_eq_emod_of_nonneg]
    refine ⟨fun h => by omega, fun _ => ?_⟩
    try simp (disch := omega) only [wrap64, Int.tmod_eq_emod_of_nonneg]
    try simp -implicitDefEqProofs [hlt, ea, hel]
    have hs2 : at_ (tArgS xs) k (i + 1) = n + 1 + 1 + 1 + (cnR (tValueS x3) : Nat) + (cnR (tStrS x4) : Nat) := by omega
    refine ⟨xs.length - (i + 1), by omega, _, St.le_of (by simp) (by simp [St.trunc, look, mapV, mapC, killP, hs2]) rfl (by simp [St.trunc, mapC]), (hI _ _).2 ⟨i + 1, by omega, rfl, rfl⟩⟩
  · have e : i = xs.length := by omega
    subst e
    have e1 : at_ (tArgS xs) k xs.length = k + cnR (tArgS xs) := by have := at_all (rows := tArgS xs) (k := k); rwa [tArgS_len] at this
    simp -implicitDefEqProofs [e1]
theorem c_markDirS (xs : List DDir) (k : Int) (K : List (List (List AC))) (h1 : 0 ≤ k) (h2 : k + cnR (tDirS xs) < 1000000000000000000) : CtB Tryz.prog 41 [.sl (.ex 132) xs.length (encR .ex (tDirS xs)), .int .i64 k] K (.int .i64 (k + cnR (tDirS xs))) K (.sl (.ex 132) xs.length (encR .ex (mkR (tDirS xs) k))) := by
  refine ct_fnB { n0 := 6, ex := [], tk := [], es := true, bw := [40] } Tryz.func41 rfl (by kernel_rfl) (by kernel_rfl) rfl (fun y => ?_)
  simp -implicitDefEqProofs [Tryz.f41]
  obtain ⟨I, hI⟩ : ∃ I : Nat → St → Prop, ∀ m s, I m s ↔ ∃ i, i ≤ xs.length ∧ m = xs.length - i ∧
    s = { env := [(0, .nam y (.sl (.ex 132) xs.length (encR .ex (part (tDirS xs) k i)))), (1, .int .i64 (at_ (tDirS xs) k i)), (4, .int .i64 0), (5, .int .i64 i)], loc := [], K := [] :: K } := ⟨_, fun _ _ => Iff.rfl⟩
  refine wC_loopI I xs.length ((hI _ _).2 ⟨0, by omega, rfl, rfl⟩) (St.le_of (by simp) (by simp [part_zero, at_zero]) rfl rfl) ?_
  intro m s hs
  obtain ⟨i, hi, rfl, rfl⟩ := (hI _ _).1 hs
  rcases Nat.lt_or_ge i xs.length with hlt | hge
  · obtain ⟨x, hx⟩ : ∃ x, xs[i]? = some x := ⟨_, List.getElem?_eq_getElem hlt⟩
    have hr := tDirS_get hx
    have hpl : (pre (tDirS xs) k i).length = i * 2 := pre_len (w := 2) tDirS_rows (by simp; omega)
    obtain ⟨x0, x1⟩ := x
    simp only [tDir, List.cons_append, List.nil_append] at hr
    rw [part_at hr]
    have hnext := part_next (k := k) hr
    have hsucc := at_succ (k := k) hr
    have hbnd := at_bnd (k := k) hr
    generalize hat : at_ (tDirS xs) k i = n at *
    simp only [encL, encT, cnL, cnT, mkL, mkT, mkR_len, Md.ow_ex, Nat.add_zero, List.cons_append, List.nil_append, tArgS_len] at hnext hsucc hbnd ⊢
    simp -implicitDefEqProofs [hlt, -putCells, Nat.add_assoc, put_app hpl, put_app0 hpl, len_app hpl, td_app hpl, td_app0 hpl, get_app hpl, get_app0 hpl, getE_app hpl, getE_app0 hpl, set_app hpl, set_app0 hpl]
    intro hm
    unfold maxLen at hm
    try simp (disch := omega) only [wrap64, Int.tmod_eq_emod_of_nonneg]
    repeat refine And.intro (by omega) ?_
    refine callK_of (c_markText _ _ ?_ ?_) ?_
    · omega
    · omega
    simp -implicitDefEqProofs [hlt, -putCells, Nat.add_assoc, put_app hpl, put_app0 hpl, len_app hpl, td_app hpl, td_app0 hpl, get_app hpl, get_app0 hpl, getE_app hpl, getE_app0 hpl, set_app hpl, set_app0 hpl]
    try simp (disch := omega) only [wrap64, Int.tmod_eq_emod_of_nonneg]
    repeat refine And.intro (by omega) ?_
    intro z1
    refine endB_of (c_markArgS x1 _ _ ?_ ?_) (by simp) ?_
    · omega
    · omega
    simp -implicitDefEqProofs [hlt, -putCells, Nat.add_assoc, put_app hpl, put_app0 hpl, len_app hpl, td_app hpl, td_app0 hpl, get_app hpl, get_app0 hpl, getE_app hpl, getE_app0 hpl, set_app hpl, set_app0 hpl]
    try simp (disch := omega) only [wrap64, Int.tmod_eq_emod_of_nonneg]
    repeat refine And.intro (by omega) ?_
    simp only [Int.cast_ofNat_Int] at hnext
    have hs2 : at_ (tDirS xs) k (i + 1) = n + 1 + (cnR (tArgS x1) : Nat) := by omega
    refine ⟨xs.length - (i + 1), by omega, _, St.le_of (by simp) (by simp [St.trunc, look, mapV, mapC, killP, hnext, hs2]) rfl (by simp [St.trunc, mapC]), (hI _ _).2 ⟨i + 1, by omega, rfl, rfl⟩⟩
  · have e : i = xs.length := by omega
    subst e
    have e1 : at_ (tDirS xs) k xs.length = k + cnR (tDirS xs) := by have := at_all (rows := tDirS xs) (k := k); rwa [tDirS_len] at this
    have e2 : part (tDirS xs) k xs.length = mkR (tDirS xs) k := by have := part_all (rows := tDirS xs) (k := k); rwa [tDirS_len] at this
    simp -implicitDefEqProofs [e1, e2]
theorem c_heldDirS (xs : List DDir) (k : Int) (K : List (List (List AC))) (h1 : 0 ≤ k) (h2 : k + cnR (tDirS xs) < 1000000000000000000) : Ct Tryz.prog 52 [.sl .no xs.length (encR .no (mkR (tDirS xs) k)), .int .i64 k] K (.int .i64 (k + cnR (tDirS xs))) K := by
  refine ct_fn { n0 := 6, ex := [], tk := [] } Tryz.func52 rfl (by kernel_rfl) (by kernel_rfl) rfl ?_
  simp -implicitDefEqProofs [Tryz.f52]
  obtain ⟨I, hI⟩ : ∃ I : Nat → St → Prop, ∀ m s, I m s ↔ ∃ i, i ≤ xs.length ∧ m = xs.length - i ∧
    s = { env := [(0, .sl .no xs.length (encR .no (mkR (tDirS xs) k))), (1, .int .i64 (at_ (tDirS xs) k i)), (4, .int .i64 0), (5, .int .i64 i)], loc := [], K := [] :: K } := ⟨_, fun _ _ => Iff.rfl⟩
  refine wC_loopI I xs.length ((hI _ _).2 ⟨0, by omega, rfl, rfl⟩) (St.le_of (by simp) (by simp [at_zero]) rfl rfl) ?_
  intro m s hs
  obtain ⟨i, hi, rfl, rfl⟩ := (hI _ _).1 hs
  rcases Nat.lt_or_ge i xs.length with hlt | hge
  · obtain ⟨x, hx⟩ : ∃ x, xs[i]? = some x := ⟨_, List.getElem?_eq_getElem hlt⟩
    have hr := tDirS_get hx
    have hel : (encR .no (mkR (tDirS xs) k)).length = xs.length * 2 := by rw [encMk_len (w := 2) tDirS_rows, tDirS_len]
    obtain ⟨x0, x1⟩ := x
    simp only [tDir, List.cons_append, List.nil_append] at hr
    have ea := row_at (m := .no) (mkR_rows (k := k) tDirS_rows) (mkR_get (k := k) hr)
    have hsucc := at_succ (k := k) hr
    have hbnd := at_bnd (k := k) hr
    generalize hat : at_ (tDirS xs) k i = n at *
    simp only [encL, encT, cnL, cnT, mkL, mkT, mkR_len, Md.ow_no, Nat.mul_one, Nat.add_zero, List.cons_append, List.nil_append, tArgS_len] at ea hsucc hbnd hel ⊢
    simp -implicitDefEqProofs [hlt, ea, hel]
    intro hm
    unfold maxLen at hm
    try simp (disch := omega) only [wrap64, Int.tmod_eq_emod_of_nonneg]
    refine wRun_draw true rfl (by decide +kernel) ?_
    simp -implicitDefEqProofs [hlt, ea, hel]
    try simp (disch := omega) only [wrap64, Int.tmod_eq_emod_of_nonneg]
    refine callK_of (c_markText _ _ ?_ ?_) ?_
    · omega
    · omega
    simp -implicitDefEqProofs [hlt, ea, hel]
    try simp (disch := omega) only [wrap64, Int.tmod_eq_emod_of_nonneg]
    try simp only [not_true_eq_false, false_implies, true_implies, true_and]
    have hc1 := c_heldArgS x1
    refine callK_of (c_heldArgS x1 _ _ ?_ ?_) ?_
    · omega
    · omega
    simp -implicitDefEqProofs [hlt, ea, hel]
    try simp (disch := omega) only [wrap64, Int.tmod_eq_emod_of_nonneg]
    refine ⟨fun h => by omega, fun _ => ?_⟩
    try simp (disch := omega) only [wrap64, Int.tmod_eq_emod_of_nonneg]
    try simp -implicitDefEqProofs [hlt, ea, hel]
    have hs2 : at_ (tDirS xs) k (i + 1) = n + 1 + (cnR (tArgS x1) : Nat) := by omega
    refine ⟨xs.length - (i + 1), by omega, _, St.le_of (by simp) (by simp [St.trunc, look, mapV, mapC, killP, hs2]) rfl (by simp [St.trunc, mapC]), (hI _ _).2 ⟨i + 1, by omega, rfl, rfl⟩⟩
  · have e : i = xs.length := by omega
    subst e
    have e1 : at_ (tDirS xs) k xs.length = k + cnR (tDirS xs) := by have := at_all (rows := tDirS xs) (k := k); rwa [tDirS_len] at this
    simp -implicitDefEqProofs [e1]
theorem c_markSelS_rec : ∀ N : Nat, ∀ (xs : List DSel) (k : Int) (K : List (List (List AC))) (h1 : 0 ≤ k) (h2 : k + cnR (tSelS xs) < 1000000000000000000) (hN : SizeOf.sizeOf xs < N), CtB Tryz.prog 15 [.sl (.ex 62) xs.length (encR .ex (tSelS xs)), .int .i64 k] K (.int .i64 (k + cnR (tSelS xs))) K (.sl (.ex 62) xs.length (encR .ex (mkR (tSelS xs) k))) := by
  intro N
  induction N with
  | zero => intros; omega
  | succ N ih =>
  intro xs k K h1 h2 hN
  refine ct_fnB { n0 := 6, ex := [], tk := [], es := true, bw := [40, 41, 15] } Tryz.func15 rfl (by kernel_rfl) (by kernel_rfl) rfl (fun y => ?_)
  simp -implicitDefEqProofs [Tryz.f15]
  obtain ⟨I, hI⟩ : ∃ I : Nat → St → Prop, ∀ m s, I m s ↔ ∃ i, i ≤ xs.length ∧ m = xs.length - i ∧
    s = { env := [(0, .nam y (.sl (.ex 62) xs.length (encR .ex (part (tSelS xs) k i)))), (1, .int .i64 (at_ (tSelS xs) k i)), (4, .int .i64 0), (5, .int .i64 i)], loc := [], K := [] :: K } := ⟨_, fun _ _ => Iff.rfl⟩
  refine wC_loopI I xs.length ((hI _ _).2 ⟨0, by omega, rfl, rfl⟩) (St.le_of (by simp) (by simp [part_zero, at_zero]) rfl rfl) ?_
  intro m s hs
  obtain ⟨i, hi, rfl, rfl⟩ := (hI _ _).1 hs
  rcases Nat.lt_or_ge i xs.length with hlt | hge
  · obtain ⟨x, hx⟩ : ∃ x, xs[i]? = some x := ⟨_, List.getElem?_eq_getElem hlt⟩
    have hr := tSelS_get hx
    have hpl : (pre (tSelS xs) k i).length = i * 7 := pre_len (w := 7) tSelS_rows (by simp; omega)
    obtain ⟨x0, x1, x2, x3, x4, x5, x6⟩ := x
    simp only [tSel, List.cons_append, List.nil_append] at hr
    rw [part_at hr]
    have hnext := part_next (k := k) hr
    have hsucc := at_succ (k := k) hr
    have hbnd := at_bnd (k := k) hr
    generalize hat : at_ (tSelS xs) k i = n at *
    simp only [encL, encT, cnL, cnT, mkL, mkT, mkR_len, Md.ow_ex, Nat.add_zero, List.cons_append, List.nil_append, tArgS_len, tDirS_len, tSelS_len] at hnext hsucc hbnd ⊢
    simp -implicitDefEqProofs [hlt, -putCells, Nat.add_assoc, put_app hpl, put_app0 hpl, len_app hpl, td_app hpl, td_app0 hpl, get_app hpl, get_app0 hpl, getE_app hpl, getE_app0 hpl, set_app hpl, set_app0 hpl]
    intro hm
    unfold maxLen at hm
    try simp (disch := omega) only [wrap64, Int.tmod_eq_emod_of_nonneg]
    repeat refine And.intro (by omega) ?_
    refine callK_of (c_markText _ _ ?_ ?_) ?_
    · omega
    · omega
    simp -implicitDefEqProofs [hlt, -putCells, Nat.add_assoc, put_app hpl, put_app0 hpl, len_app hpl, td_app hpl, td_app0 hpl, get_app hpl, get_app0 hpl, getE_app hpl, getE_app0 hpl, set_app hpl, set_app0 hpl]
    try simp (disch := omega) only [wrap64, Int.tmod_eq_emod_of_nonneg]
    repeat refine And.intro (by omega) ?_
    refine callK_of (c_markText _ _ ?_ ?_) ?_
    · omega
    · omega
    simp -implicitDefEqProofs [hlt, -putCells, Nat.add_assoc, put_app hpl, put_app0 hpl, len_app hpl, td_app hpl, td_app0 hpl, get_app hpl, get_app0 hpl, getE_app hpl, getE_app0 hpl, set_app hpl, set_app0 hpl]
    try simp (disch := omega) only [wrap64, Int.tmod_eq_emod_of_nonneg]
    repeat refine And.intro (by omega) ?_
    refine callK_of (c_markText _ _ ?_ ?_) ?_
    · omega
    · omega
    simp -implicitDefEqProofs [hlt, -putCells, Nat.add_assoc, put_app hpl, put_app0 hpl, len_app hpl, td_app hpl, td_app0 hpl, get_app hpl, get_app0 hpl, getE_app hpl, getE_app0 hpl, set_app hpl, set_app0 hpl]
    try simp (disch := omega) only [wrap64, Int.tmod_eq_emod_of_nonneg]
    repeat refine And.intro (by omega) ?_
    intro z4
    refine endB_of (c_markArgS x4 _ _ ?_ ?_) (by simp) ?_
    · omega
    · omega
    simp -implicitDefEqProofs [hlt, -putCells, Nat.add_assoc, put_app hpl, put_app0 hpl, len_app hpl, td_app hpl, td_app0 hpl, get_app hpl, get_app0 hpl, getE_app hpl, getE_app0 hpl, set_app hpl, set_app0 hpl]
    try simp (disch := omega) only [wrap64, Int.tmod_eq_emod_of_nonneg]
    repeat refine And.intro (by omega) ?_
    intro z5
    refine endB_of (c_markDirS x5 _ _ ?_ ?_) (by simp) ?_
    · omega
    · omega
    simp -implicitDefEqProofs [hlt, -putCells, Nat.add_assoc, put_app hpl, put_app0 hpl, len_app hpl, td_app hpl, td_app0 hpl, get_app hpl, get_app0 hpl, getE_app hpl, getE_app0 hpl, set_app hpl, set_app0 hpl]
    try simp (disch := omega) only [wrap64, Int.tmod_eq_emod_of_nonneg]
    repeat refine And.intro (by omega) ?_
    intro z6
    refine endB_of (ih x6 _ _ ?_ ?_ (by have h5 := List.sizeOf_lt_of_mem (List.mem_of_getElem? hx); simp at h5; omega)) (by simp) ?_
    · omega
    · omega
    simp -implicitDefEqProofs [hlt, -putCells, Nat.add_assoc, put_app hpl, put_app0 hpl, len_app hpl, td_app hpl, td_app0 hpl, get_app hpl, get_app0 hpl, getE_app hpl, getE_app0 hpl, set_app hpl, set_app0 hpl]
    try simp (disch := omega) only [wrap64, Int.tmod_eq_emod_of_nonneg]
    repeat refine And.intro (by omega) ?_
    simp only [Int.cast_ofNat_Int] at hnext
    have hs2 : at_ (tSelS xs) k (i + 1) = n + 1 + 1 + 1 + 1 + (cnR (tArgS x4) : Nat) + (cnR (tDirS x5) : Nat) + (cnR (tSelS x6) : Nat) := by omega
    refine ⟨xs.length - (i + 1), by omega, _, St.le_of (by simp) (by simp [St.trunc, look, mapV, mapC, killP, hnext, hs2]) rfl (by simp [St.trunc, mapC]), (hI _ _).2 ⟨i + 1, by omega, rfl, rfl⟩⟩
  · have e : i = xs.length := by omega
    subst e
    have e1 : at_ (tSelS xs) k xs.length = k + cnR (tSelS xs) := by have := at_all (rows := tSelS xs) (k := k); rwa [tSelS_len] at this
    have e2 : part (tSelS xs) k xs.length = mkR (tSelS xs) k := by have := part_all (rows := tSelS xs) (k := k); rwa [tSelS_len] at this
    simp -implicitDefEqProofs [e1, e2]
theorem c_markSelS (xs : List DSel) (k : Int) (K : List (List (List AC))) (h1 : 0 ≤ k) (h2 : k + cnR (tSelS xs) < 1000000000000000000) : CtB Tryz.prog 15 [.sl (.ex 62) xs.length (encR .ex (tSelS xs)), .int .i64 k] K (.int .i64 (k + cnR (tSelS xs))) K (.sl (.ex 62) xs.length (encR .ex (mkR (tSelS xs) k))) := c_markSelS_rec _ xs k K h1 h2 (Nat.lt_succ_self _)
theorem c_heldSelS_rec : ∀ N : Nat, ∀ (xs : List DSel) (k : Int) (K : List (List (List AC))) (h1 : 0 ≤ k) (h2 : k + cnR (tSelS xs) < 1000000000000000000) (hN : SizeOf.sizeOf xs < N), Ct Tryz.prog 53 [.sl .no xs.length (encR .no (mkR (tSelS xs) k)), .int .i64 k] K (.int .i64 (k + cnR (tSelS xs))) K := by
  intro N
  induction N with
  | zero => intros; omega
  | succ N ih =>
  intro xs k K h1 h2 hN
  refine ct_fn { n0 := 6, ex := [], tk := [] } Tryz.func53 rfl (by kernel_rfl) (by kernel_rfl) rfl ?_
  simp -implicitDefEqProofs [Tryz.f53]
  obtain ⟨I, hI⟩ : ∃ I : Nat → St → Prop, ∀ m s, I m s ↔ ∃ i, i ≤ xs.length ∧ m = xs.length - i ∧
    s = { env := [(0, .sl .no xs.length (encR .no (mkR (tSelS xs) k))), (1, .int .i64 (at_ (tSelS xs) k i)), (4, .int .i64 0), (5, .int .i64 i)], loc := [], K := [] :: K } := ⟨_, fun _ _ => Iff.rfl⟩
  refine wC_loopI I xs.length ((hI _ _).2 ⟨0, by omega, rfl, rfl⟩) (St.le_of (by simp) (by simp [at_zero]) rfl rfl) ?_
  intro m s hs
  obtain ⟨i, hi, rfl, rfl⟩ := (hI _ _).1 hs
  rcases Nat.lt_or_ge i xs.length with hlt | hge
  · obtain ⟨x, hx⟩ : ∃ x, xs[i]? = some x := ⟨_, List.getElem?_eq_getElem hlt⟩
    have hr := tSelS_get hx
    have hel : (encR .no (mkR (tSelS xs) k)).length = xs.length * 7 := by rw [encMk_len (w := 7) tSelS_rows, tSelS_len]
    obtain ⟨x0, x1, x2, x3, x4, x5, x6⟩ := x
    simp only [tSel, List.cons_append, List.nil_append] at hr
    have ea := row_at (m := .no) (mkR_rows (k := k) tSelS_rows) (mkR_get (k := k) hr)
    have hsucc := at_succ (k := k) hr
    have hbnd := at_bnd (k := k) hr
    generalize hat : at_ (tSelS xs) k i = n at *
    simp only [encL, encT, cnL, cnT, mkL, mkT, mkR_len, Md.ow_no, Nat.mul_one, Nat.add_zero, List.cons_append, List.nil_append, tArgS_len, tDirS_len, tSelS_len] at ea hsucc hbnd hel ⊢
    simp -implicitDefEqProofs [hlt, ea, hel]
    intro hm
    unfold maxLen at hm
    try simp (disch := omega) only [wrap64, Int.tmod_eq_emod_of_nonneg]
    refine wRun_draw true rfl (by decide +kernel) ?_
    simp -implicitDefEqProofs [hlt, ea, hel]
    try simp (disch := omega) only [wrap64, Int.tmod_eq_emod_of_nonneg]
    refine callK_of (c_markText _ _ ?_ ?_) ?_
    · omega
    · omega
    simp -implicitDefEqProofs [hlt, ea, hel]
    try simp (disch := omega) only [wrap64, Int.tmod_eq_emod_of_nonneg]
    try simp only [not_true_eq_false, false_implies, true_implies, true_and]
    refine wRun_draw true rfl (by decide +kernel) ?_
    simp -implicitDefEqProofs [hlt, ea, hel]
    try simp (disch := omega) only [wrap64, Int.tmod_eq_emod_of_nonneg]
    refine callK_of (c_markText _ _ ?_ ?_) ?_
    · omega
    · omega
    simp -implicitDefEqProofs [hlt, ea, hel]
    try simp (disch := omega) only [wrap64, Int.tmod_eq_emod_of_nonneg]
    try simp only [not_true_eq_false, false_implies, true_implies, true_and]
    refine wRun_draw true rfl (by decide +kernel) ?_
    simp -implicitDefEqProofs [hlt, ea, hel]
    try simp (disch := omega) only [wrap64, Int.tmod_eq_emod_of_nonneg]
    refine callK_of (c_markText _ _ ?_ ?_) ?_
    · omega
    · omega
    simp -implicitDefEqProofs [hlt, ea, hel]
    try simp (disch := omega) only [wrap64, Int.tmod_eq_emod_of_nonneg]
    try simp only [not_true_eq_false, false_implies, true_implies, true_and]
    have hc4 := c_heldArgS x4
    refine callK_of (c_heldArgS x4 _ _ ?_ ?_) ?_
    · omega
    · omega
    simp -implicitDefEqProofs [hlt, ea, hel]
    try simp (disch := omega) only [wrap64, Int.tmod_eq_emod_of_nonneg]
    refine ⟨fun h => by omega, fun _ => ?_⟩
    try simp (disch := omega) only [wrap64, Int.tmod_eq_emod_of_nonneg]
    have hc5 := c_heldDirS x5
    refine callK_of (c_heldDirS x5 _ _ ?_ ?_) ?_
    · omega
    · omega
    simp -implicitDefEqProofs [hlt, ea, hel]
    try simp (disch := omega) only [wrap64, Int.tmod_eq_emod_of_nonneg]
    refine ⟨fun h => by omega, fun _ => ?_⟩
    try simp (disch := omega) only [wrap64, Int.tmod_eq_emod_of_nonneg]
    have hc6 := ih x6
    refine callK_of (ih x6 _ _ ?_ ?_ (by have h5 := List.sizeOf_lt_of_mem (List.mem_of_getElem? hx); simp at h5; omega)) ?_
    · omega
    · omega
    simp -implicitDefEqProofs [hlt, ea, hel]
    try simp (disch := omega) only [wrap64, Int.tmod_eq_emod_of_nonneg]
    refine ⟨fun h => by omega, fun _ => ?_⟩
    try simp (disch := omega) only [wrap64, Int.tmod_eq_emod_of_nonneg]
    try simp -implicitDefEqProofs [hlt, ea, hel]
    have hs2 : at_ (tSelS xs) k (i + 1) = n + 1 + 1 + 1 + 1 + (cnR (tArgS x4) : Nat) + (cnR (tDirS x5) : Nat) + (cnR (tSelS x6) : Nat) := by omega
    refine ⟨xs.length - (i + 1), by omega, _, St.le_of (by simp) (by simp [St.trunc, look, mapV, mapC, killP, hs2]) rfl (by simp [St.trunc, mapC]), (hI _ _).2 ⟨i + 1, by omega, rfl, rfl⟩⟩
  · have e : i = xs.length := by omega
    subst e
    have e1 : at_ (tSelS xs) k xs.length = k + cnR (tSelS xs) := by have := at_all (rows := tSelS xs) (k := k); rwa [tSelS_len] at this
    simp -implicitDefEqProofs [e1]
theorem c_heldSelS (xs : List DSel) (k : Int) (K : List (List (List AC))) (h1 : 0 ≤ k) (h2 : k + cnR (tSelS xs) < 1000000000000000000) : Ct Tryz.prog 53 [.sl .no xs.length (encR .no (mkR (tSelS xs) k)), .int .i64 k] K (.int .i64 (k + cnR (tSelS xs))) K := c_heldSelS_rec _ xs k K h1 h2 (Nat.lt_succ_self _)
theorem c_markInDefS (xs : List DInDef) (k : Int) (K : List (List (List AC))) (h1 : 0 ≤ k) (h2 : k + cnR (tInDefS xs) < 1000000000000000000) : CtB Tryz.prog 79 [.sl (.ex 126) xs.length (encR .ex (tInDefS xs)), .int .i64 k] K (.int .i64 (k + cnR (tInDefS xs))) K (.sl (.ex 126) xs.length (encR .ex (mkR (tInDefS xs) k))) := by
  refine ct_fnB { n0 := 6, ex := [], tk := [], es := true, bw := [81, 77, 41] } Tryz.func79 rfl (by kernel_rfl) (by kernel_rfl) rfl (fun y => ?_)
  simp -implicitDefEqProofs [Tryz.f79]
  obtain ⟨I, hI⟩ : ∃ I : Nat → St → Prop, ∀ m s, I m s ↔ ∃ i, i ≤ xs.length ∧ m = xs.length - i ∧
    s = { env := [(0, .nam y (.sl (.ex 126) xs.length (encR .ex (part (tInDefS xs) k i)))), (1, .int .i64 (at_ (tInDefS xs) k i)), (4, .int .i64 0), (5, .int .i64 i)], loc := [], K := [] :: K } := ⟨_, fun _ _ => Iff.rfl⟩
  refine wC_loopI I xs.length ((hI _ _).2 ⟨0, by omega, rfl, rfl⟩) (St.le_of (by simp) (by simp [part_zero, at_zero]) rfl rfl) ?_
  intro m s hs
  obtain ⟨i, hi, rfl, rfl⟩ := (hI _ _).1 hs
  rcases Nat.lt_or_ge i xs.length with hlt | hge
  · obtain ⟨x, hx⟩ : ∃ x, xs[i]? = some x := ⟨_, List.getElem?_eq_getElem hlt⟩
    have hr := tInDefS_get hx
    have hpl : (pre (tInDefS xs) k i).length = i * 10 := pre_len (w := 10) tInDefS_rows (by simp; omega)
    obtain ⟨x0, x1, ⟨x2, x3⟩, x4, ⟨x5, x6, x7, x8⟩, x9⟩ := x
    simp only [tInDef, tType, tValue, List.cons_append, List.nil_append] at hr
    rw [part_at hr]
    have hnext := part_next (k := k) hr
    have hsucc := at_succ (k := k) hr
    have hbnd := at_bnd (k := k) hr
    generalize hat : at_ (tInDefS xs) k i = n at *
    simp only [encL, encT, cnL, cnT, mkL, mkT, mkR_len, Md.ow_ex, Nat.add_zero, List.cons_append, List.nil_append, tValueS_len, tStrS_len, tDirS_len] at hnext hsucc hbnd ⊢
    simp -implicitDefEqProofs [hlt, -putCells, Nat.add_assoc, put_app hpl, put_app0 hpl, len_app hpl, td_app hpl, td_app0 hpl, get_app hpl, get_app0 hpl, getE_app hpl, getE_app0 hpl, set_app hpl, set_app0 hpl]
    intro hm
    unfold maxLen at hm
    try simp (disch := omega) only [wrap64, Int.tmod_eq_emod_of_nonneg]
    repeat refine And.intro (by omega) ?_
    refine callK_of (c_markText _ _ ?_ ?_) ?_
    · omega
    · omega
    simp -implicitDefEqProofs [hlt, -putCells, Nat.add_assoc, put_app hpl, put_app0 hpl, len_app hpl, td_app hpl, td_app0 hpl, get_app hpl, get_app0 hpl, getE_app hpl, getE_app0 hpl, set_app hpl, set_app0 hpl]
    try simp (disch := omega) only [wrap64, Int.tmod_eq_emod_of_nonneg]
    repeat refine And.intro (by omega) ?_
    refine callK_of (c_markText _ _ ?_ ?_) ?_
    · omega
    · omega
    simp -implicitDefEqProofs [hlt, -putCells, Nat.add_assoc, put_app hpl, put_app0 hpl, len_app hpl, td_app hpl, td_app0 hpl, get_app hpl, get_app0 hpl, getE_app hpl, getE_app0 hpl, set_app hpl, set_app0 hpl]
    try simp (disch := omega) only [wrap64, Int.tmod_eq_emod_of_nonneg]
    repeat refine And.intro (by omega) ?_
    refine callK_of (c_markText _ _ ?_ ?_) ?_
    · omega
    · omega
    simp -implicitDefEqProofs [hlt, -putCells, Nat.add_assoc, put_app hpl, put_app0 hpl, len_app hpl, td_app hpl, td_app0 hpl, get_app hpl, get_app0 hpl, getE_app hpl, getE_app0 hpl, set_app hpl, set_app0 hpl]
    try simp (disch := omega) only [wrap64, Int.tmod_eq_emod_of_nonneg]
    repeat refine And.intro (by omega) ?_
    refine callK_of (c_markText _ _ ?_ ?_) ?_
    · omega
    · omega
    simp -implicitDefEqProofs [hlt, -putCells, Nat.add_assoc, put_app hpl, put_app0 hpl, len_app hpl, td_app hpl, td_app0 hpl, get_app hpl, get_app0 hpl, getE_app hpl, getE_app0 hpl, set_app hpl, set_app0 hpl]
    try simp (disch := omega) only [wrap64, Int.tmod_eq_emod_of_nonneg]
    repeat refine And.intro (by omega) ?_
    refine callK_of (c_markText _ _ ?_ ?_) ?_
    · omega
    · omega
    simp -implicitDefEqProofs [hlt, -putCells, Nat.add_assoc, put_app hpl, put_app0 hpl, len_app hpl, td_app hpl, td_app0 hpl, get_app hpl, get_app0 hpl, getE_app hpl, getE_app0 hpl, set_app hpl, set_app0 hpl]
    try simp (disch := omega) only [wrap64, Int.tmod_eq_emod_of_nonneg]
    repeat refine And.intro (by omega) ?_
    intro z7
    refine endB_of (c_markValueS x7 _ _ ?_ ?_) (by simp) ?_
    · omega
    · omega
    simp -implicitDefEqProofs [hlt, -putCells, Nat.add_assoc, put_app hpl, put_app0 hpl, len_app hpl, td_app hpl, td_app0 hpl, get_app hpl, get_app0 hpl, getE_app hpl, getE_app0 hpl, set_app hpl, set_app0 hpl]
    try simp (disch := omega) only [wrap64, Int.tmod_eq_emod_of_nonneg]
    repeat refine And.intro (by omega) ?_
    intro z8
    refine endB_of (c_markStringS x8 _ _ ?_ ?_) (by simp) ?_
    · omega
    · omega
    simp -implicitDefEqProofs [hlt, -putCells, Nat.add_assoc, put_app hpl, put_app0 hpl, len_app hpl, td_app hpl, td_app0 hpl, get_app hpl, get_app0 hpl, getE_app hpl, getE_app0 hpl, set_app hpl, set_app0 hpl]
    try simp (disch := omega) only [wrap64, Int.tmod_eq_emod_of_nonneg]
    repeat refine And.intro (by omega) ?_
    intro z9
    refine endB_of (c_markDirS x9 _ _ ?_ ?_) (by simp) ?_
    · omega
    · omega
    simp -implicitDefEqProofs [hlt, -putCells, Nat.add_assoc, put_app hpl, put_app0 hpl, len_app hpl, td_app hpl, td_app0 hpl, get_app hpl, get_app0 hpl, getE_app hpl, getE_app0 hpl, set_app hpl, set_app0 hpl]
    try simp (disch := omega) only [wrap64, Int.tmod_eq_emod_of_nonneg]
    repeat refine And.intro (by omega) ?_
    simp only [Int.cast_ofNat_Int] at hnext
    have hs2 : at_ (tInDefS xs) k (i + 1) = n + 1 + 1 + 1 + 1 + 1 + 1 + 1 + (cnR (tValueS x7) : Nat) + (cnR (tStrS x8) : Nat) + (cnR (tDirS x9) : Nat) := by omega
    have fin : ∀ (C : List AC) (q r : Int) (L : List (Nat × AC)), C = encR .ex (part (tInDefS xs) k (i + 1)) → q = at_ (tInDefS xs) k (i + 1) → r = ((i + 1 : Nat) : Int) →
        roundK I (xs.length - i) 0 { env := [(0, .nam y (.sl (.ex 126) xs.length C)), (1, .int .i64 q), (4, .int .i64 0), (5, .int .i64 r)], loc := L, K := [] :: K } := by
      rintro C q r L rfl rfl rfl
      exact ⟨xs.length - (i + 1), by omega, _, St.le_of (by simp) (by simp [St.trunc, look, mapV, mapC, killP]) rfl (by simp [St.trunc, mapC]), (hI _ _).2 ⟨i + 1, by omega, rfl, rfl⟩⟩
    refine fin _ _ _ _ ?_ hs2.symm (by omega)
    clear fin
    refine Eq.trans ?_ hnext
    refine congrArg (fun c => pre (tInDefS xs) k i ++ c) ?_
    refine congr (congrArg List.cons (by with_reducible rfl)) ?_
    refine congr (congrArg List.cons (by with_reducible rfl)) ?_
    refine congr (congrArg List.cons (by with_reducible rfl)) ?_
    refine congr (congrArg List.cons (by with_reducible rfl)) ?_
    refine congr (congrArg List.cons ?_) ?_
    · exact congrArg AC.bool ((@decide_eq_decide _ _ _ _).2 Iff.rfl)
    refine congr (congrArg List.cons (by with_reducible rfl)) ?_
    refine congr (congrArg List.cons (by with_reducible rfl)) ?_
    refine congr (congrArg List.cons (by with_reducible rfl)) ?_
    refine congr (congrArg List.cons (by with_reducible rfl)) ?_
    refine congr (congrArg List.cons (by with_reducible rfl)) ?_
    with_reducible rfl
  · have e : i = xs.length := by omega
    subst e
    have e1 : at_ (tInDefS xs) k xs.length = k + cnR (tInDefS xs) := by have := at_all (rows := tInDefS xs) (k := k); rwa [tInDefS_len] at this
    have e2 : part (tInDefS xs) k xs.length = mkR (tInDefS xs) k := by have := part_all (rows := tInDefS xs) (k := k); rwa [tInDefS_len] at this
    simp -implicitDefEqProofs [e1, e2]
theorem c_markFieldDefS (xs : List DFieldDef) (k : Int) (K : List (List (List AC))) (h1 : 0 ≤ k) (h2 : k + cnR (tFieldDefS xs) < 1000000000000000000) : CtB Tryz.prog 78 [.sl (.ex 70) xs.length (encR .ex (tFieldDefS xs)), .int .i64 k] K (.int .i64 (k + cnR (tFieldDefS xs))) K (.sl (.ex 70) xs.length (encR .ex (mkR (tFieldDefS xs) k))) := by
  refine ct_fnB { n0 := 6, ex := [], tk := [], es := true, bw := [79, 41] } Tryz.func78 rfl (by kernel_rfl) (by kernel_rfl) rfl (fun y => ?_)
  simp -implicitDefEqProofs [Tryz.f78]
  obtain ⟨I, hI⟩ : ∃ I : Nat → St → Prop, ∀ m s, I m s ↔ ∃ i, i ≤ xs.length ∧ m = xs.length - i ∧
    s = { env := [(0, .nam y (.sl (.ex 70) xs.length (encR .ex (part (tFieldDefS xs) k i)))), (1, .int .i64 (at_ (tFieldDefS xs) k i)), (4, .int .i64 0), (5, .int .i64 i)], loc := [], K := [] :: K } := ⟨_, fun _ _ => Iff.rfl⟩
  refine wC_loopI I xs.length ((hI _ _).2 ⟨0, by omega, rfl, rfl⟩) (St.le_of (by simp) (by simp [part_zero, at_zero]) rfl rfl) ?_
  intro m s hs
  obtain ⟨i, hi, rfl, rfl⟩ := (hI _ _).1 hs
  rcases Nat.lt_or_ge i xs.length with hlt | hge
  · obtain ⟨x, hx⟩ : ∃ x, xs[i]? = some x := ⟨_, List.getElem?_eq_getElem hlt⟩
    have hr := tFieldDefS_get hx
    have hpl : (pre (tFieldDefS xs) k i).length = i * 6 := pre_len (w := 6) tFieldDefS_rows (by simp; omega)
    obtain ⟨x0, x1, x2, ⟨x3, x4⟩, x5⟩ := x
    simp only [tFieldDef, tType, List.cons_append, List.nil_append] at hr
    rw [part_at hr]
    have hnext := part_next (k := k) hr
    have hsucc := at_succ (k := k) hr
    have hbnd := at_bnd (k := k) hr
    generalize hat : at_ (tFieldDefS xs) k i = n at *
    simp only [encL, encT, cnL, cnT, mkL, mkT, mkR_len, Md.ow_ex, Nat.add_zero, List.cons_append, List.nil_append, tInDefS_len, tDirS_len] at hnext hsucc hbnd ⊢
    simp -implicitDefEqProofs [hlt, -putCells, Nat.add_assoc, put_app hpl, put_app0 hpl, len_app hpl, td_app hpl, td_app0 hpl, get_app hpl, get_app0 hpl, getE_app hpl, getE_app0 hpl, set_app hpl, set_app0 hpl]
    intro hm
    unfold maxLen at hm
    try simp (disch := omega) only [wrap64, Int.tmod_eq_emod_of_nonneg]
    repeat refine And.intro (by omega) ?_
    refine callK_of (c_markText _ _ ?_ ?_) ?_
    · omega
    · omega
    simp -implicitDefEqProofs [hlt, -putCells, Nat.add_assoc, put_app hpl, put_app0 hpl, len_app hpl, td_app hpl, td_app0 hpl, get_app hpl, get_app0 hpl, getE_app hpl, getE_app0 hpl, set_app hpl, set_app0 hpl]
    try simp (disch := omega) only [wrap64, Int.tmod_eq_emod_of_nonneg]
    repeat refine And.intro (by omega) ?_
    refine callK_of (c_markText _ _ ?_ ?_) ?_
    · omega
    · omega
    simp -implicitDefEqProofs [hlt, -putCells, Nat.add_assoc, put_app hpl, put_app0 hpl, len_app hpl, td_app hpl, td_app0 hpl, get_app hpl, get_app0 hpl, getE_app hpl, getE_app0 hpl, set_app hpl, set_app0 hpl]
    try simp (disch := omega) only [wrap64, Int.tmod_eq_emod_of_nonneg]
    repeat refine And.intro (by omega) ?_
    intro z2
    refine endB_of (c_markInDefS x2 _ _ ?_ ?_) (by simp) ?_
    · omega
    · omega
    simp -implicitDefEqProofs [hlt, -putCells, Nat.add_assoc, put_app hpl, put_app0 hpl, len_app hpl, td_app hpl, td_app0 hpl, get_app hpl, get_app0 hpl, getE_app hpl, getE_app0 hpl, set_app hpl, set_app0 hpl]
    try simp (disch := omega) only [wrap64, Int.tmod_eq_emod_of_nonneg]
    repeat refine And.intro (by omega) ?_
    refine callK_of (c_markText _ _ ?_ ?_) ?_
    · omega
    · omega
    simp -implicitDefEqProofs [hlt, -putCells, Nat.add_assoc, put_app hpl, put_app0 hpl, len_app hpl, td_app hpl, td_app0 hpl, get_app hpl, get_app0 hpl, getE_app hpl, getE_app0 hpl, set_app hpl, set_app0 hpl]
    try simp (disch := omega) only [wrap64, Int.tmod_eq_emod_of_nonneg]
    repeat refine And.intro (by omega) ?_
    refine callK_of (c_markText _ _ ?_ ?_) ?_
    · omega
    · omega
    simp -implicitDefEqProofs [hlt, -putCells, Nat.add_assoc, put_app hpl, put_app0 hpl, len_app hpl, td_app hpl, td_app0 hpl, get_app hpl, get_app0 hpl, getE_app hpl, getE_app0 hpl, set_app hpl, set_app0 hpl]
    try simp (disch := omega) only [wrap64, Int.tmod_eq_emod_of_nonneg]
    repeat refine And.intro (by omega) ?_
    intro z5
    refine endB_of (c_markDirS x5 _ _ ?_ ?_) (by simp) ?_
    · omega
    · omega
    simp -implicitDefEqProofs [hlt, -putCells, Nat.add_assoc, put_app hpl, put_app0 hpl, len_app hpl, td_app hpl, td_app0 hpl, get_app hpl, get_app0 hpl, getE_app hpl, getE_app0 hpl, set_app hpl, set_app0 hpl]
    try simp (disch := omega) only [wrap64, Int.tmod_eq_emod_of_nonneg]
    repeat refine And.intro (by omega) ?_
    simp only [Int.cast_ofNat_Int] at hnext
    have hs2 : at_ (tFieldDefS xs) k (i + 1) = n + 1 + 1 + (cnR (tInDefS x2) : Nat) + 1 + 1 + (cnR (tDirS x5) : Nat) := by omega
    refine ⟨xs.length - (i + 1), by omega, _, St.le_of (by simp) (by simp [St.trunc, look, mapV, mapC, killP, hnext, hs2]) rfl (by simp [St.trunc, mapC]), (hI _ _).2 ⟨i + 1, by omega, rfl, rfl⟩⟩
  · have e : i = xs.length := by omega
    subst e
    have e1 : at_ (tFieldDefS xs) k xs.length = k + cnR (tFieldDefS xs) := by have := at_all (rows := tFieldDefS xs) (k := k); rwa [tFieldDefS_len] at this
    have e2 : part (tFieldDefS xs) k xs.length = mkR (tFieldDefS xs) k := by have := part_all (rows := tFieldDefS xs) (k := k); rwa [tFieldDefS_len] at this
    simp -implicitDefEqProofs [e1, e2]
theorem c_markEnumDefS (xs : List DEnumDef) (k : Int) (K : List (List (List AC))) (h1 : 0 ≤ k) (h2 : k + cnR (tEnumDefS xs) < 1000000000000000000) : CtB Tryz.prog 80 [.sl (.ex 183) xs.length (encR .ex (tEnumDefS xs)), .int .i64 k] K (.int .i64 (k + cnR (tEnumDefS xs))) K (.sl (.ex 183) xs.length (encR .ex (mkR (tEnumDefS xs) k))) := by
  refine ct_fnB { n0 := 6, ex := [], tk := [], es := true, bw := [41] } Tryz.func80 rfl (by kernel_rfl) (by kernel_rfl) rfl (fun y => ?_)
  simp -implicitDefEqProofs [Tryz.f80]
  obtain ⟨I, hI⟩ : ∃ I : Nat → St → Prop, ∀ m s, I m s ↔ ∃ i, i ≤ xs.length ∧ m = xs.length - i ∧
    s = { env := [(0, .nam y (.sl (.ex 183) xs.length (encR .ex (part (tEnumDefS xs) k i)))), (1, .int .i64 (at_ (tEnumDefS xs) k i)), (4, .int .i64 0), (5, .int .i64 i)], loc := [], K := [] :: K } := ⟨_, fun _ _ => Iff.rfl⟩
  refine wC_loopI I xs.length ((hI _ _).2 ⟨0, by omega, rfl, rfl⟩) (St.le_of (by simp) (by simp [part_zero, at_zero]) rfl rfl) ?_
  intro m s hs
  obtain ⟨i, hi, rfl, rfl⟩ := (hI _ _).1 hs
  rcases Nat.lt_or_ge i xs.length with hlt | hge
  · obtain ⟨x, hx⟩ : ∃ x, xs[i]? = some x := ⟨_, List.getElem?_eq_getElem hlt⟩
    have hr := tEnumDefS_get hx
    have hpl : (pre (tEnumDefS xs) k i).length = i * 3 := pre_len (w := 3) tEnumDefS_rows (by simp; omega)
    obtain ⟨x0, x1, x2⟩ := x
    simp only [tEnumDef, List.cons_append, List.nil_append] at hr
    rw [part_at hr]
    have hnext := part_next (k := k) hr
    have hsucc := at_succ (k := k) hr
    have hbnd := at_bnd (k := k) hr
    generalize hat : at_ (tEnumDefS xs) k i = n at *
    simp only [encL, encT, cnL, cnT, mkL, mkT, mkR_len, Md.ow_ex, Nat.add_zero, List.cons_append, List.nil_append, tDirS_len] at hnext hsucc hbnd ⊢
    simp -implicitDefEqProofs [hlt, -putCells, Nat.add_assoc, put_app hpl, put_app0 hpl, len_app hpl, td_app hpl, td_app0 hpl, get_app hpl, get_app0 hpl, getE_app hpl, getE_app0 hpl, set_app hpl, set_app0 hpl]
    intro hm
    unfold maxLen at hm
    try simp (disch := omega) only [wrap64, Int.tmod_eq_emod_of_nonneg]
    repeat refine And.intro (by omega) ?_
    refine callK_of (c_markText _ _ ?_ ?_) ?_
    · omega
    · omega
    simp -implicitDefEqProofs [hlt, -putCells, Nat.add_assoc, put_app hpl, put_app0 hpl, len_app hpl, td_app hpl, td_app0 hpl, get_app hpl, get_app0 hpl, getE_app hpl, getE_app0 hpl, set_app hpl, set_app0 hpl]
    try simp (disch := omega) only [wrap64, Int.tmod_eq_emod_of_nonneg]
    repeat refine And.intro (by omega) ?_
    refine callK_of (c_markText _ _ ?_ ?_) ?_
    · omega
    · omega
    simp -implicitDefEqProofs [hlt, -putCells, Nat.add_assoc, put_app hpl, put_app0 hpl, len_app hpl, td_app hpl, td_app0 hpl, get_app hpl, get_app0 hpl, getE_app hpl, getE_app0 hpl, set_app hpl, set_app0 hpl]
    try simp (disch := omega) only [wrap64, Int.tmod_eq_emod_of_nonneg]
    repeat refine And.intro (by omega) ?_
    intro z2
    refine endB_of (c_markDirS x2 _ _ ?_ ?_) (by simp) ?_
    · omega
    · omega
    simp -implicitDefEqProofs [hlt, -putCells, Nat.add_assoc, put_app hpl, put_app0 hpl, len_app hpl, td_app hpl, td_app0 hpl, get_app hpl, get_app0 hpl, getE_app hpl, getE_app0 hpl, set_app hpl, set_app0 hpl]
    try simp (disch := omega) only [wrap64, Int.tmod_eq_emod_of_nonneg]
    repeat refine And.intro (by omega) ?_
    simp only [Int.cast_ofNat_Int] at hnext
    have hs2 : at_ (tEnumDefS xs) k (i + 1) = n + 1 + 1 + (cnR (tDirS x2) : Nat) := by omega
    refine ⟨xs.length - (i + 1), by omega, _, St.le_of (by simp) (by simp [St.trunc, look, mapV, mapC, killP, hnext, hs2]) rfl (by simp [St.trunc, mapC]), (hI _ _).2 ⟨i + 1, by omega, rfl, rfl⟩⟩
  · have e : i = xs.length := by omega
    subst e
    have e1 : at_ (tEnumDefS xs) k xs.length = k + cnR (tEnumDefS xs) := by have := at_all (rows := tEnumDefS xs) (k := k); rwa [tEnumDefS_len] at this
    have e2 : part (tEnumDefS xs) k xs.length = mkR (tEnumDefS xs) k := by have := part_all (rows := tEnumDefS xs) (k := k); rwa [tEnumDefS_len] at this
    simp -implicitDefEqProofs [e1, e2]
theorem c_markRootS (xs : List DRoot) (k : Int) (K : List (List (List AC))) (h1 : 0 ≤ k) (h2 : k + cnR (tRootS xs) < 1000000000000000000) : CtB Tryz.prog 38 [.sl (.ex 112) xs.length (encR .ex (tRootS xs)), .int .i64 k] K (.int .i64 (k + cnR (tRootS xs))) K (.sl (.ex 112) xs.length (encR .ex (mkR (tRootS xs) k))) := by
  refine ct_fnB { n0 := 6, ex := [], tk := [], es := true, bw := [] } Tryz.func38 rfl (by kernel_rfl) (by kernel_rfl) rfl (fun y => ?_)
  simp -implicitDefEqProofs [Tryz.f38]
  obtain ⟨I, hI⟩ : ∃ I : Nat → St → Prop, ∀ m s, I m s ↔ ∃ i, i ≤ xs.length ∧ m = xs.length - i ∧
    s = { env := [(0, .nam y (.sl (.ex 112) xs.length (encR .ex (part (tRootS xs) k i)))), (1, .int .i64 (at_ (tRootS xs) k i)), (4, .int .i64 0), (5, .int .i64 i)], loc := [], K := [] :: K } := ⟨_, fun _ _ => Iff.rfl⟩
  refine wC_loopI I xs.length ((hI _ _).2 ⟨0, by omega, rfl, rfl⟩) (St.le_of (by simp) (by simp [part_zero, at_zero]) rfl rfl) ?_
  intro m s hs
  obtain ⟨i, hi, rfl, rfl⟩ := (hI _ _).1 hs
  rcases Nat.lt_or_ge i xs.length with hlt | hge
  · obtain ⟨x, hx⟩ : ∃ x, xs[i]? = some x := ⟨_, List.getElem?_eq_getElem hlt⟩
    have hr := tRootS_get hx
    have hpl : (pre (tRootS xs) k i).length = i * 2 := pre_len (w := 2) tRootS_rows (by simp; omega)
    obtain ⟨x0, x1⟩ := x
    simp only [tRoot, List.cons_append, List.nil_append] at hr
    rw [part_at hr]
    have hnext := part_next (k := k) hr
    have hsucc := at_succ (k := k) hr
    have hbnd := at_bnd (k := k) hr
    generalize hat : at_ (tRootS xs) k i = n at *
    simp only [encL, encT, cnL, cnT, mkL, mkT, mkR_len, Md.ow_ex, Nat.add_zero, List.cons_append, List.nil_append] at hnext hsucc hbnd ⊢
    simp -implicitDefEqProofs [hlt, -putCells, Nat.add_assoc, put_app hpl, put_app0 hpl, len_app hpl, td_app hpl, td_app0 hpl, get_app hpl, get_app0 hpl, getE_app hpl, getE_app0 hpl, set_app hpl, set_app0 hpl]
    intro hm
    unfold maxLen at hm
    try simp (disch := omega) only [wrap64, Int.tmod_eq_emod_of_nonneg]
    repeat refine And.intro (by omega) ?_
    refine callK_of (c_markText _ _ ?_ ?_) ?_
    · omega
    · omega
    simp -implicitDefEqProofs [hlt, -putCells, Nat.add_assoc, put_app hpl, put_app0 hpl, len_app hpl, td_app hpl, td_app0 hpl, get_app hpl, get_app0 hpl, getE_app hpl, getE_app0 hpl, set_app hpl, set_app0 hpl]
    try simp (disch := omega) only [wrap64, Int.tmod_eq_emod_of_nonneg]
    repeat refine And.intro (by omega) ?_
    simp only [Int.cast_ofNat_Int] at hnext
    have hs2 : at_ (tRootS xs) k (i + 1) = n + 1 + 1 := by omega
    refine ⟨xs.length - (i + 1), by omega, _, St.le_of (by simp) (by simp [St.trunc, look, mapV, mapC, killP, hnext, hs2]) rfl (by simp [St.trunc, mapC]), (hI _ _).2 ⟨i + 1, by omega, rfl, rfl⟩⟩
  · have e : i = xs.length := by omega
    subst e
    have e1 : at_ (tRootS xs) k xs.length = k + cnR (tRootS xs) := by have := at_all (rows := tRootS xs) (k := k); rwa [tRootS_len] at this
    have e2 : part (tRootS xs) k xs.length = mkR (tRootS xs) k := by have := part_all (rows := tRootS xs) (k := k); rwa [tRootS_len] at this
    simp -implicitDefEqProofs [e1, e2]
theorem c_markDefS (xs : List DDef) (k : Int) (K : List (List (List AC))) (h1 : 0 ≤ k) (h2 : k + cnR (tDefS xs) < 1000000000000000000) : CtB Tryz.prog 37 [.sl (.ex 110) xs.length (encR .ex (tDefS xs)), .int .i64 k] K (.int .i64 (k + cnR (tDefS xs))) K (.sl (.ex 110) xs.length (encR .ex (mkR (tDefS xs) k))) := by
  refine ct_fnB { n0 := 6, ex := [], tk := [], es := true, bw := [77, 78, 79, 80, 38, 41] } Tryz.func37 rfl (by kernel_rfl) (by kernel_rfl) rfl (fun y => ?_)
  simp -implicitDefEqProofs [Tryz.f37]
  obtain ⟨I, hI⟩ : ∃ I : Nat → St → Prop, ∀ m s, I m s ↔ ∃ i, i ≤ xs.length ∧ m = xs.length - i ∧
    s = { env := [(0, .nam y (.sl (.ex 110) xs.length (encR .ex (part (tDefS xs) k i)))), (1, .int .i64 (at_ (tDefS xs) k i)), (4, .int .i64 0), (5, .int .i64 i)], loc := [], K := [] :: K } := ⟨_, fun _ _ => Iff.rfl⟩
  refine wC_loopI I xs.length ((hI _ _).2 ⟨0, by omega, rfl, rfl⟩) (St.le_of (by simp) (by simp [part_zero, at_zero]) rfl rfl) ?_
  intro m s hs
  obtain ⟨i, hi, rfl, rfl⟩ := (hI _ _).1 hs
  rcases Nat.lt_or_ge i xs.length with hlt | hge
  · obtain ⟨x, hx⟩ : ∃ x, xs[i]? = some x := ⟨_, List.getElem?_eq_getElem hlt⟩
    have hr := tDefS_get hx
    have hpl : (pre (tDefS xs) k i).length = i * 11 := pre_len (w := 11) tDefS_rows (by simp; omega)
    obtain ⟨x0, x1, x2, x3, x4, x5, x6, x7, x8, x9, x10⟩ := x
    simp only [tDef, List.cons_append, List.nil_append] at hr
    rw [part_at hr]
    have hnext := part_next (k := k) hr
    have hsucc := at_succ (k := k) hr
    have hbnd := at_bnd (k := k) hr
    generalize hat : at_ (tDefS xs) k i = n at *
    simp only [encL, encT, cnL, cnT, mkL, mkT, mkR_len, Md.ow_ex, Nat.add_zero, List.cons_append, List.nil_append, tStrS_len, tFieldDefS_len, tInDefS_len, tEnumDefS_len, tRootS_len, tDirS_len] at hnext hsucc hbnd ⊢
    simp -implicitDefEqProofs [hlt, -putCells, Nat.add_assoc, put_app hpl, put_app0 hpl, len_app hpl, td_app hpl, td_app0 hpl, get_app hpl, get_app0 hpl, getE_app hpl, getE_app0 hpl, set_app hpl, set_app0 hpl]
    intro hm
    unfold maxLen at hm
    try simp (disch := omega) only [wrap64, Int.tmod_eq_emod_of_nonneg]
    repeat refine And.intro (by omega) ?_
    refine callK_of (c_markText _ _ ?_ ?_) ?_
    · omega
    · omega
    simp -implicitDefEqProofs [hlt, -putCells, Nat.add_assoc, put_app hpl, put_app0 hpl, len_app hpl, td_app hpl, td_app0 hpl, get_app hpl, get_app0 hpl, getE_app hpl, getE_app0 hpl, set_app hpl, set_app0 hpl]
    try simp (disch := omega) only [wrap64, Int.tmod_eq_emod_of_nonneg]
    repeat refine And.intro (by omega) ?_
    refine callK_of (c_markText _ _ ?_ ?_) ?_
    · omega
    · omega
    simp -implicitDefEqProofs [hlt, -putCells, Nat.add_assoc, put_app hpl, put_app0 hpl, len_app hpl, td_app hpl, td_app0 hpl, get_app hpl, get_app0 hpl, getE_app hpl, getE_app0 hpl, set_app hpl, set_app0 hpl]
    try simp (disch := omega) only [wrap64, Int.tmod_eq_emod_of_nonneg]
    repeat refine And.intro (by omega) ?_
    intro z4
    refine endB_of (c_markStringS x4 _ _ ?_ ?_) (by simp) ?_
    · omega
    · omega
    simp -implicitDefEqProofs [hlt, -putCells, Nat.add_assoc, put_app hpl, put_app0 hpl, len_app hpl, td_app hpl, td_app0 hpl, get_app hpl, get_app0 hpl, getE_app hpl, getE_app0 hpl, set_app hpl, set_app0 hpl]
    try simp (disch := omega) only [wrap64, Int.tmod_eq_emod_of_nonneg]
    repeat refine And.intro (by omega) ?_
    intro z5
    refine endB_of (c_markFieldDefS x5 _ _ ?_ ?_) (by simp) ?_
    · omega
    · omega
    simp -implicitDefEqProofs [hlt, -putCells, Nat.add_assoc, put_app hpl, put_app0 hpl, len_app hpl, td_app hpl, td_app0 hpl, get_app hpl, get_app0 hpl, getE_app hpl, getE_app0 hpl, set_app hpl, set_app0 hpl]
    try simp (disch := omega) only [wrap64, Int.tmod_eq_emod_of_nonneg]
    repeat refine And.intro (by omega) ?_
    intro z6
    refine endB_of (c_markInDefS x6 _ _ ?_ ?_) (by simp) ?_
    · omega
    · omega
    simp -implicitDefEqProofs [hlt, -putCells, Nat.add_assoc, put_app hpl, put_app0 hpl, len_app hpl, td_app hpl, td_app0 hpl, get_app hpl, get_app0 hpl, getE_app hpl, getE_app0 hpl, set_app hpl, set_app0 hpl]
    try simp (disch := omega) only [wrap64, Int.tmod_eq_emod_of_nonneg]
    repeat refine And.intro (by omega) ?_
    intro z7
    refine endB_of (c_markEnumDefS x7 _ _ ?_ ?_) (by simp) ?_
    · omega
    · omega
    simp -implicitDefEqProofs [hlt, -putCells, Nat.add_assoc, put_app hpl, put_app0 hpl, len_app hpl, td_app hpl, td_app0 hpl, get_app hpl, get_app0 hpl, getE_app hpl, getE_app0 hpl, set_app hpl, set_app0 hpl]
    try simp (disch := omega) only [wrap64, Int.tmod_eq_emod_of_nonneg]
    repeat refine And.intro (by omega) ?_
    intro z8
    refine endB_of (c_markRootS x8 _ _ ?_ ?_) (by simp) ?_
    · omega
    · omega
    simp -implicitDefEqProofs [hlt, -putCells, Nat.add_assoc, put_app hpl, put_app0 hpl, len_app hpl, td_app hpl, td_app0 hpl, get_app hpl, get_app0 hpl, getE_app hpl, getE_app0 hpl, set_app hpl, set_app0 hpl]
    try simp (disch := omega) only [wrap64, Int.tmod_eq_emod_of_nonneg]
    repeat refine And.intro (by omega) ?_
    intro z10
    refine endB_of (c_markDirS x10 _ _ ?_ ?_) (by simp) ?_
    · omega
    · omega
    simp -implicitDefEqProofs [hlt, -putCells, Nat.add_assoc, put_app hpl, put_app0 hpl, len_app hpl, td_app hpl, td_app0 hpl, get_app hpl, get_app0 hpl, getE_app hpl, getE_app0 hpl, set_app hpl, set_app0 hpl]
    try simp (disch := omega) only [wrap64, Int.tmod_eq_emod_of_nonneg]
    repeat refine And.intro (by omega) ?_
    simp only [Int.cast_ofNat_Int] at hnext
    have hs2 : at_ (tDefS xs) k (i + 1) = n + 1 + 1 + 1 + 1 + (cnR (tStrS x4) : Nat) + (cnR (tFieldDefS x5) : Nat) + (cnR (tInDefS x6) : Nat) + (cnR (tEnumDefS x7) : Nat) + (cnR (tRootS x8) : Nat) + 1 + (cnR (tDirS x10) : Nat) := by omega
    have fin : ∀ (C : List AC) (q r : Int) (L : List (Nat × AC)), C = encR .ex (part (tDefS xs) k (i + 1)) → q = at_ (tDefS xs) k (i + 1) → r = ((i + 1 : Nat) : Int) →
        roundK I (xs.length - i) 0 { env := [(0, .nam y (.sl (.ex 110) xs.length C)), (1, .int .i64 q), (4, .int .i64 0), (5, .int .i64 r)], loc := L, K := [] :: K } := by
      rintro C q r L rfl rfl rfl
      exact ⟨xs.length - (i + 1), by omega, _, St.le_of (by simp) (by simp [St.trunc, look, mapV, mapC, killP]) rfl (by simp [St.trunc, mapC]), (hI _ _).2 ⟨i + 1, by omega, rfl, rfl⟩⟩
    refine fin _ _ _ _ ?_ hs2.symm (by omega)
    clear fin
    refine Eq.trans ?_ hnext
    refine congrArg (fun c => pre (tDefS xs) k i ++ c) ?_
    refine congr (congrArg List.cons (by with_reducible rfl)) ?_
    refine congr (congrArg List.cons ?_) ?_
    · exact congrArg AC.bool ((@decide_eq_decide _ _ _ _).2 Iff.rfl)
    refine congr (congrArg List.cons (by with_reducible rfl)) ?_
    refine congr (congrArg List.cons (by with_reducible rfl)) ?_
    refine congr (congrArg List.cons (by with_reducible rfl)) ?_
    refine congr (congrArg List.cons (by with_reducible rfl)) ?_
    refine congr (congrArg List.cons (by with_reducible rfl)) ?_
    refine congr (congrArg List.cons (by with_reducible rfl)) ?_
    refine congr (congrArg List.cons (by with_reducible rfl)) ?_
    refine congr (congrArg List.cons ?_) ?_
    · exact congrArg AC.bool ((@decide_eq_decide _ _ _ _).2 Iff.rfl)
    refine congr (congrArg List.cons (by with_reducible rfl)) ?_
    with_reducible rfl
  · have e : i = xs.length := by omega
    subst e
    have e1 : at_ (tDefS xs) k xs.length = k + cnR (tDefS xs) := by have := at_all (rows := tDefS xs) (k := k); rwa [tDefS_len] at this
    have e2 : part (tDefS xs) k xs.length = mkR (tDefS xs) k := by have := part_all (rows := tDefS xs) (k := k); rwa [tDefS_len] at this
    simp -implicitDefEqProofs [e1, e2]
theorem c_markUseS (xs : List DUse) (k : Int) (K : List (List (List AC))) (h1 : 0 ≤ k) (h2 : k + cnR (tUseS xs) < 1000000000000000000) : CtB Tryz.prog 16 [.sl (.ex 77) xs.length (encR .ex (tUseS xs)), .int .i64 k] K (.int .i64 (k + cnR (tUseS xs))) K (.sl (.ex 77) xs.length (encR .ex (mkR (tUseS xs) k))) := by
  refine ct_fnB { n0 := 6, ex := [], tk := [], es := true, bw := [] } Tryz.func16 rfl (by kernel_rfl) (by kernel_rfl) rfl (fun y => ?_)
  simp -implicitDefEqProofs [Tryz.f16]
  obtain ⟨I, hI⟩ : ∃ I : Nat → St → Prop, ∀ m s, I m s ↔ ∃ i, i ≤ xs.length ∧ m = xs.length - i ∧
    s = { env := [(0, .nam y (.sl (.ex 77) xs.length (encR .ex (part (tUseS xs) k i)))), (1, .int .i64 (at_ (tUseS xs) k i)), (4, .int .i64 0), (5, .int .i64 i)], loc := [], K := [] :: K } := ⟨_, fun _ _ => Iff.rfl⟩
  refine wC_loopI I xs.length ((hI _ _).2 ⟨0, by omega, rfl, rfl⟩) (St.le_of (by simp) (by simp [part_zero, at_zero]) rfl rfl) ?_
  intro m s hs
  obtain ⟨i, hi, rfl, rfl⟩ := (hI _ _).1 hs
  rcases Nat.lt_or_ge i xs.length with hlt | hge
  · obtain ⟨x, hx⟩ : ∃ x, xs[i]? = some x := ⟨_, List.getElem?_eq_getElem hlt⟩
    have hr := tUseS_get hx
    have hpl : (pre (tUseS xs) k i).length = i * 5 := pre_len (w := 5) tUseS_rows (by simp; omega)
    obtain ⟨x0, ⟨x1, x2⟩, x3, x4⟩ := x
    simp only [tUse, tType, List.cons_append, List.nil_append] at hr
    rw [part_at hr]
    have hnext := part_next (k := k) hr
    have hsucc := at_succ (k := k) hr
    have hbnd := at_bnd (k := k) hr
    generalize hat : at_ (tUseS xs) k i = n at *
    simp only [encL, encT, cnL, cnT, mkL, mkT, mkR_len, Md.ow_ex, Nat.add_zero, List.cons_append, List.nil_append] at hnext hsucc hbnd ⊢
    simp -implicitDefEqProofs [hlt, -putCells, Nat.add_assoc, put_app hpl, put_app0 hpl, len_app hpl, td_app hpl, td_app0 hpl, get_app hpl, get_app0 hpl, getE_app hpl, getE_app0 hpl, set_app hpl, set_app0 hpl]
    intro hm
    unfold maxLen at hm
    try simp (disch := omega) only [wrap64, Int.tmod_eq_emod_of_nonneg]
    repeat refine And.intro (by omega) ?_
    refine callK_of (c_markText _ _ ?_ ?_) ?_
    · omega
    · omega
    simp -implicitDefEqProofs [hlt, -putCells, Nat.add_assoc, put_app hpl, put_app0 hpl, len_app hpl, td_app hpl, td_app0 hpl, get_app hpl, get_app0 hpl, getE_app hpl, getE_app0 hpl, set_app hpl, set_app0 hpl]
    try simp (disch := omega) only [wrap64, Int.tmod_eq_emod_of_nonneg]
    repeat refine And.intro (by omega) ?_
    refine callK_of (c_markText _ _ ?_ ?_) ?_
    · omega
    · omega
    simp -implicitDefEqProofs [hlt, -putCells, Nat.add_assoc, put_app hpl, put_app0 hpl, len_app hpl, td_app hpl, td_app0 hpl, get_app hpl, get_app0 hpl, getE_app hpl, getE_app0 hpl, set_app hpl, set_app0 hpl]
    try simp (disch := omega) only [wrap64, Int.tmod_eq_emod_of_nonneg]
    repeat refine And.intro (by omega) ?_
    refine callK_of (c_markText _ _ ?_ ?_) ?_
    · omega
    · omega
    simp -implicitDefEqProofs [hlt, -putCells, Nat.add_assoc, put_app hpl, put_app0 hpl, len_app hpl, td_app hpl, td_app0 hpl, get_app hpl, get_app0 hpl, getE_app hpl, getE_app0 hpl, set_app hpl, set_app0 hpl]
    try simp (disch := omega) only [wrap64, Int.tmod_eq_emod_of_nonneg]
    repeat refine And.intro (by omega) ?_
    simp only [Int.cast_ofNat_Int] at hnext
    have hs2 : at_ (tUseS xs) k (i + 1) = n + 1 + 1 + 1 + 1 + 1 := by omega
    have fin : ∀ (C : List AC) (q r : Int) (L : List (Nat × AC)), C = encR .ex (part (tUseS xs) k (i + 1)) → q = at_ (tUseS xs) k (i + 1) → r = ((i + 1 : Nat) : Int) →
        roundK I (xs.length - i) 0 { env := [(0, .nam y (.sl (.ex 77) xs.length C)), (1, .int .i64 q), (4, .int .i64 0), (5, .int .i64 r)], loc := L, K := [] :: K } := by
      rintro C q r L rfl rfl rfl
      exact ⟨xs.length - (i + 1), by omega, _, St.le_of (by simp) (by simp [St.trunc, look, mapV, mapC, killP]) rfl (by simp [St.trunc, mapC]), (hI _ _).2 ⟨i + 1, by omega, rfl, rfl⟩⟩
    refine fin _ _ _ _ ?_ hs2.symm (by omega)
    clear fin
    refine Eq.trans ?_ hnext
    refine congrArg (fun c => pre (tUseS xs) k i ++ c) ?_
    refine congr (congrArg List.cons (by with_reducible rfl)) ?_
    refine congr (congrArg List.cons (by with_reducible rfl)) ?_
    refine congr (congrArg List.cons (by with_reducible rfl)) ?_
    refine congr (congrArg List.cons ?_) ?_
    · exact congrArg AC.bool ((@decide_eq_decide _ _ _ _).2 Iff.rfl)
    refine congr (congrArg List.cons ?_) ?_
    · exact congrArg AC.bool ((@decide_eq_decide _ _ _ _).2 Iff.rfl)
    with_reducible rfl
  · have e : i = xs.length := by omega
    subst e
    have e1 : at_ (tUseS xs) k xs.length = k + cnR (tUseS xs) := by have := at_all (rows := tUseS xs) (k := k); rwa [tUseS_len] at this
    have e2 : part (tUseS xs) k xs.length = mkR (tUseS xs) k := by have := part_all (rows := tUseS xs) (k := k); rwa [tUseS_len] at this
    simp -implicitDefEqProofs [e1, e2]
theorem c_heldUseS (xs : List DUse) (k : Int) (K : List (List (List AC))) (h1 : 0 ≤ k) (h2 : k + cnR (tUseS xs) < 1000000000000000000) : Ct Tryz.prog 17 [.sl .no xs.length (encR .no (mkR (tUseS xs) k)), .int .i64 k] K (.int .i64 (k + cnR (tUseS xs))) K := by
  refine ct_fn { n0 := 6, ex := [], tk := [] } Tryz.func17 rfl (by kernel_rfl) (by kernel_rfl) rfl ?_
  simp -implicitDefEqProofs [Tryz.f17]
  obtain ⟨I, hI⟩ : ∃ I : Nat → St → Prop, ∀ m s, I m s ↔ ∃ i, i ≤ xs.length ∧ m = xs.length - i ∧
    s = { env := [(0, .sl .no xs.length (encR .no (mkR (tUseS xs) k))), (1, .int .i64 (at_ (tUseS xs) k i)), (4, .int .i64 0), (5, .int .i64 i)], loc := [], K := [] :: K } := ⟨_, fun _ _ => Iff.rfl⟩
  refine wC_loopI I xs.length ((hI _ _).2 ⟨0, by omega, rfl, rfl⟩) (St.le_of (by simp) (by simp [at_zero]) rfl rfl) ?_
  intro m s hs
  obtain ⟨i, hi, rfl, rfl⟩ := (hI _ _).1 hs
  rcases Nat.lt_or_ge i xs.length with hlt | hge
  · obtain ⟨x, hx⟩ : ∃ x, xs[i]? = some x := ⟨_, List.getElem?_eq_getElem hlt⟩
    have hr := tUseS_get hx
    have hel : (encR .no (mkR (tUseS xs) k)).length = xs.length * 5 := by rw [encMk_len (w := 5) tUseS_rows, tUseS_len]
    obtain ⟨x0, ⟨x1, x2⟩, x3, x4⟩ := x
    simp only [tUse, tType, List.cons_append, List.nil_append] at hr
    have ea := row_at (m := .no) (mkR_rows (k := k) tUseS_rows) (mkR_get (k := k) hr)
    have hsucc := at_succ (k := k) hr
    have hbnd := at_bnd (k := k) hr
    generalize hat : at_ (tUseS xs) k i = n at *
    simp only [encL, encT, cnL, cnT, mkL, mkT, mkR_len, Md.ow_no, Nat.mul_one, Nat.add_zero, List.cons_append, List.nil_append] at ea hsucc hbnd hel ⊢
    simp -implicitDefEqProofs [hlt, ea, hel]
    intro hm
    unfold maxLen at hm
    try simp (disch := omega) only [wrap64, Int.tmod_eq_emod_of_nonneg]
    refine wRun_draw true rfl (by decide +kernel) ?_
    simp -implicitDefEqProofs [hlt, ea, hel]
    try simp (disch := omega) only [wrap64, Int.tmod_eq_emod_of_nonneg]
    refine callK_of (c_markText _ _ ?_ ?_) ?_
    · omega
    · omega
    simp -implicitDefEqProofs [hlt, ea, hel]
    try simp (disch := omega) only [wrap64, Int.tmod_eq_emod_of_nonneg]
    try simp only [not_true_eq_false, false_implies, true_implies, true_and]
    refine wRun_draw true rfl (by decide +kernel) ?_
    simp -implicitDefEqProofs [hlt, ea, hel]
    try simp (disch := omega) only [wrap64, Int.tmod_eq_emod_of_nonneg]
    refine callK_of (c_markText _ _ ?_ ?_) ?_
    · omega
    · omega
    simp -implicitDefEqProofs [hlt, ea, hel]
    try simp (disch := omega) only [wrap64, Int.tmod_eq_emod_of_nonneg]
    try simp only [not_true_eq_false, false_implies, true_implies, true_and]
    refine wRun_draw true rfl (by decide +kernel) ?_
    simp -implicitDefEqProofs [hlt, ea, hel]
    try simp (disch := omega) only [wrap64, Int.tmod_eq_emod_of_nonneg]
    refine callK_of (c_markText _ _ ?_ ?_) ?_
    · omega
    · omega
    simp -implicitDefEqProofs [hlt, ea, hel]
    try simp (disch := omega) only [wrap64, Int.tmod_eq_emod_of_nonneg]
    try simp only [not_true_eq_false, false_implies, true_implies, true_and]
    try simp -implicitDefEqProofs [hlt, ea, hel]
    have hs2 : at_ (tUseS xs) k (i + 1) = n + 1 + 1 + 1 + 1 + 1 := by omega
    refine ⟨xs.length - (i + 1), by omega, _, St.le_of (by simp) (by simp [St.trunc, look, mapV, mapC, killP, hs2]) rfl (by simp [St.trunc, mapC]), (hI _ _).2 ⟨i + 1, by omega, rfl, rfl⟩⟩
  · have e : i = xs.length := by omega
    subst e
    have e1 : at_ (tUseS xs) k xs.length = k + cnR (tUseS xs) := by have := at_all (rows := tUseS xs) (k := k); rwa [tUseS_len] at this
    simp -implicitDefEqProofs [e1]
theorem c_markPlaceS (xs : List DPlace) (k : Int) (K : List (List (List AC))) (h1 : 0 ≤ k) (h2 : k + cnR (tPlaceS xs) < 1000000000000000000) : CtB Tryz.prog 21 [.sl (.ex 65) xs.length (encR .ex (tPlaceS xs)), .int .i64 k] K (.int .i64 (k + cnR (tPlaceS xs))) K (.sl (.ex 65) xs.length (encR .ex (mkR (tPlaceS xs) k))) := by
  refine ct_fnB { n0 := 6, ex := [], tk := [], es := true, bw := [40, 41, 15] } Tryz.func21 rfl (by kernel_rfl) (by kernel_rfl) rfl (fun y => ?_)
  simp -implicitDefEqProofs [Tryz.f21]
  obtain ⟨I, hI⟩ : ∃ I : Nat → St → Prop, ∀ m s, I m s ↔ ∃ i, i ≤ xs.length ∧ m = xs.length - i ∧
    s = { env := [(0, .nam y (.sl (.ex 65) xs.length (encR .ex (part (tPlaceS xs) k i)))), (1, .int .i64 (at_ (tPlaceS xs) k i)), (4, .int .i64 0), (5, .int .i64 i)], loc := [], K := [] :: K } := ⟨_, fun _ _ => Iff.rfl⟩
  refine wC_loopI I xs.length ((hI _ _).2 ⟨0, by omega, rfl, rfl⟩) (St.le_of (by simp) (by simp [part_zero, at_zero]) rfl rfl) ?_
  intro m s hs
  obtain ⟨i, hi, rfl, rfl⟩ := (hI _ _).1 hs
  rcases Nat.lt_or_ge i xs.length with hlt | hge
  · obtain ⟨x, hx⟩ : ∃ x, xs[i]? = some x := ⟨_, List.getElem?_eq_getElem hlt⟩
    have hr := tPlaceS_get hx
    have hpl : (pre (tPlaceS xs) k i).length = i * 8 := pre_len (w := 8) tPlaceS_rows (by simp; omega)
    obtain ⟨x0, ⟨x1, x2, x3, x4, x5, x6, x7⟩⟩ := x
    simp only [tPlace, tSel, List.cons_append, List.nil_append] at hr
    rw [part_at hr]
    have hnext := part_next (k := k) hr
    have hsucc := at_succ (k := k) hr
    have hbnd := at_bnd (k := k) hr
    generalize hat : at_ (tPlaceS xs) k i = n at *
    simp only [encL, encT, cnL, cnT, mkL, mkT, mkR_len, Md.ow_ex, Nat.add_zero, List.cons_append, List.nil_append, tArgS_len, tDirS_len, tSelS_len] at hnext hsucc hbnd ⊢
    simp -implicitDefEqProofs [hlt, -putCells, Nat.add_assoc, put_app hpl, put_app0 hpl, len_app hpl, td_app hpl, td_app0 hpl, get_app hpl, get_app0 hpl, getE_app hpl, getE_app0 hpl, set_app hpl, set_app0 hpl]
    intro hm
    unfold maxLen at hm
    try simp (disch := omega) only [wrap64, Int.tmod_eq_emod_of_nonneg]
    repeat refine And.intro (by omega) ?_
    refine callK_of (c_markText _ _ ?_ ?_) ?_
    · omega
    · omega
    simp -implicitDefEqProofs [hlt, -putCells, Nat.add_assoc, put_app hpl, put_app0 hpl, len_app hpl, td_app hpl, td_app0 hpl, get_app hpl, get_app0 hpl, getE_app hpl, getE_app0 hpl, set_app hpl, set_app0 hpl]
    try simp (disch := omega) only [wrap64, Int.tmod_eq_emod_of_nonneg]
    repeat refine And.intro (by omega) ?_
    refine callK_of (c_markText _ _ ?_ ?_) ?_
    · omega
    · omega
    simp -implicitDefEqProofs [hlt, -putCells, Nat.add_assoc, put_app hpl, put_app0 hpl, len_app hpl, td_app hpl, td_app0 hpl, get_app hpl, get_app0 hpl, getE_app hpl, getE_app0 hpl, set_app hpl, set_app0 hpl]
    try simp (disch := omega) only [wrap64, Int.tmod_eq_emod_of_nonneg]
    repeat refine And.intro (by omega) ?_
    refine callK_of (c_markText _ _ ?_ ?_) ?_
    · omega
    · omega
    simp -implicitDefEqProofs [hlt, -putCells, Nat.add_assoc, put_app hpl, put_app0 hpl, len_app hpl, td_app hpl, td_app0 hpl, get_app hpl, get_app0 hpl, getE_app hpl, getE_app0 hpl, set_app hpl, set_app0 hpl]
    try simp (disch := omega) only [wrap64, Int.tmod_eq_emod_of_nonneg]
    repeat refine And.intro (by omega) ?_
    refine callK_of (c_markText _ _ ?_ ?_) ?_
    · omega
    · omega
    simp -implicitDefEqProofs [hlt, -putCells, Nat.add_assoc, put_app hpl, put_app0 hpl, len_app hpl, td_app hpl, td_app0 hpl, get_app hpl, get_app0 hpl, getE_app hpl, getE_app0 hpl, set_app hpl, set_app0 hpl]
    try simp (disch := omega) only [wrap64, Int.tmod_eq_emod_of_nonneg]
    repeat refine And.intro (by omega) ?_
    intro z5
    refine endB_of (c_markArgS x5 _ _ ?_ ?_) (by simp) ?_
    · omega
    · omega
    simp -implicitDefEqProofs [hlt, -putCells, Nat.add_assoc, put_app hpl, put_app0 hpl, len_app hpl, td_app hpl, td_app0 hpl, get_app hpl, get_app0 hpl, getE_app hpl, getE_app0 hpl, set_app hpl, set_app0 hpl]
    try simp (disch := omega) only [wrap64, Int.tmod_eq_emod_of_nonneg]
    repeat refine And.intro (by omega) ?_
    intro z6
    refine endB_of (c_markDirS x6 _ _ ?_ ?_) (by simp) ?_
    · omega
    · omega
    simp -implicitDefEqProofs [hlt, -putCells, Nat.add_assoc, put_app hpl, put_app0 hpl, len_app hpl, td_app hpl, td_app0 hpl, get_app hpl, get_app0 hpl, getE_app hpl, getE_app0 hpl, set_app hpl, set_app0 hpl]
    try simp (disch := omega) only [wrap64, Int.tmod_eq_emod_of_nonneg]
    repeat refine And.intro (by omega) ?_
    intro z7
    refine endB_of (c_markSelS x7 _ _ ?_ ?_) (by simp) ?_
    · omega
    · omega
    simp -implicitDefEqProofs [hlt, -putCells, Nat.add_assoc, put_app hpl, put_app0 hpl, len_app hpl, td_app hpl, td_app0 hpl, get_app hpl, get_app0 hpl, getE_app hpl, getE_app0 hpl, set_app hpl, set_app0 hpl]
    try simp (disch := omega) only [wrap64, Int.tmod_eq_emod_of_nonneg]
    repeat refine And.intro (by omega) ?_
    simp only [Int.cast_ofNat_Int] at hnext
    have hs2 : at_ (tPlaceS xs) k (i + 1) = n + 1 + 1 + 1 + 1 + 1 + (cnR (tArgS x5) : Nat) + (cnR (tDirS x6) : Nat) + (cnR (tSelS x7) : Nat) := by omega
    refine ⟨xs.length - (i + 1), by omega, _, St.le_of (by simp) (by simp [St.trunc, look, mapV, mapC, killP, hnext, hs2]) rfl (by simp [St.trunc, mapC]), (hI _ _).2 ⟨i + 1, by omega, rfl, rfl⟩⟩
  · have e : i = xs.length := by omega
    subst e
    have e1 : at_ (tPlaceS xs) k xs.length = k + cnR (tPlaceS xs) := by have := at_all (rows := tPlaceS xs) (k := k); rwa [tPlaceS_len] at this
    have e2 : part (tPlaceS xs) k xs.length = mkR (tPlaceS xs) k := by have := part_all (rows := tPlaceS xs) (k := k); rwa [tPlaceS_len] at this
    simp -implicitDefEqProofs [e1, e2]
theorem c_heldPlaceS (xs : List DPlace) (k : Int) (K : List (List (List AC))) (h1 : 0 ≤ k) (h2 : k + cnR (tPlaceS xs) < 1000000000000000000) : Ct Tryz.prog 22 [.sl .no xs.length (encR .no (mkR (tPlaceS xs) k)), .int .i64 k] K (.int .i64 (k + cnR (tPlaceS xs))) K := by
  refine ct_fn { n0 := 6, ex := [], tk := [] } Tryz.func22 rfl (by kernel_rfl) (by kernel_rfl) rfl ?_
  simp -implicitDefEqProofs [Tryz.f22]
  obtain ⟨I, hI⟩ : ∃ I : Nat → St → Prop, ∀ m s, I m s ↔ ∃ i, i ≤ xs.length ∧ m = xs.length - i ∧
    s = { env := [(0, .sl .no xs.length (encR .no (mkR (tPlaceS xs) k))), (1, .int .i64 (at_ (tPlaceS xs) k i)), (4, .int .i64 0), (5, .int .i64 i)], loc := [], K := [] :: K } := ⟨_, fun _ _ => Iff.rfl⟩
  refine wC_loopI I xs.length ((hI _ _).2 ⟨0, by omega, rfl, rfl⟩) (St.le_of (by simp) (by simp [at_zero]) rfl rfl) ?_
  intro m s hs
  obtain ⟨i, hi, rfl, rfl⟩ := (hI _ _).1 hs
  rcases Nat.lt_or_ge i xs.length with hlt | hge
  · obtain ⟨x, hx⟩ : ∃ x, xs[i]? = some x := ⟨_, List.getElem?_eq_getElem hlt⟩
    have hr := tPlaceS_get hx
    have hel : (encR .no (mkR (tPlaceS xs) k)).length = xs.length * 8 := by rw [encMk_len (w := 8) tPlaceS_rows, tPlaceS_len]
    obtain ⟨x0, ⟨x1, x2, x3, x4, x5, x6, x7⟩⟩ := x
    simp only [tPlace, tSel, List.cons_append, List.nil_append] at hr
    have ea := row_at (m := .no) (mkR_rows (k := k) tPlaceS_rows) (mkR_get (k := k) hr)
    have hsucc := at_succ (k := k) hr
    have hbnd := at_bnd (k := k) hr
    generalize hat : at_ (tPlaceS xs) k i = n at *
    simp only [encL, encT, cnL, cnT, mkL, mkT, mkR_len, Md.ow_no, Nat.mul_one, Nat.add_zero, List.cons_append, List.nil_append, tArgS_len, tDirS_len, tSelS_len] at ea hsucc hbnd hel ⊢
    simp -implicitDefEqProofs [hlt, ea, hel]
    intro hm
    unfold maxLen at hm
    try simp (disch := omega) only [wrap64, Int.tmod_eq_emod_of_nonneg]
    refine wRun_draw true rfl (by decide +kernel) ?_
    simp -implicitDefEqProofs [hlt, ea, hel]
    try simp (disch := omega) only [wrap64, Int.tmod_eq_emod_of_nonneg]
    refine callK_of (c_markText _ _ ?_ ?_) ?_
    · omega
    · omega
    simp -implicitDefEqProofs [hlt, ea, hel]
    try simp (disch := omega) only [wrap64, Int.tmod_eq_emod_of_nonneg]
    try simp only [not_true_eq_false, false_implies, true_implies, true_and]
    refine wRun_draw true rfl (by decide +kernel) ?_
    simp -implicitDefEqProofs [hlt, ea, hel]
    try simp (disch := omega) only [wrap64, Int.tmod_eq_emod_of_nonneg]
    refine callK_of (c_markText _ _ ?_ ?_) ?_
    · omega
    · omega
    simp -implicitDefEqProofs [hlt, ea, hel]
    try simp (disch := omega) only [wrap64, Int.tmod_eq_emod_of_nonneg]
    try simp only [not_true_eq_false, false_implies, true_implies, true_and]
    refine wRun_draw true rfl (by decide +kernel) ?_
    simp -implicitDefEqProofs [hlt, ea, hel]
    try simp (disch := omega) only [wrap64, Int.tmod_eq_emod_of_nonneg]
    refine callK_of (c_markText _ _ ?_ ?_) ?_
    · omega
    · omega
    simp -implicitDefEqProofs [hlt, ea, hel]
    try simp (disch := omega) only [wrap64, Int.tmod_eq_emod_of_nonneg]
    try simp only [not_true_eq_false, false_implies, true_implies, true_and]
    refine wRun_draw true rfl (by decide +kernel) ?_
    simp -implicitDefEqProofs [hlt, ea, hel]
    try simp (disch := omega) only [wrap64, Int.tmod_eq_emod_of_nonneg]
    refine callK_of (c_markText _ _ ?_ ?_) ?_
    · omega
    · omega
    simp -implicitDefEqProofs [hlt, ea, hel]
    try simp (disch := omega) only [wrap64, Int.tmod_eq_emod_of_nonneg]
    try simp only [not_true_eq_false, false_implies, true_implies, true_and]
    have hc5 := c_heldArgS x5
    refine callK_of (c_heldArgS x5 _ _ ?_ ?_) ?_
    · omega
    · omega
    simp -implicitDefEqProofs [hlt, ea, hel]
    try simp (disch := omega) only [wrap64, Int.tmod_eq_emod_of_nonneg]
    refine ⟨fun h => by omega, fun _ => ?_⟩
    try simp (disch := omega) only [wrap64, Int.tmod_eq_emod_of_nonneg]
    have hc6 := c_heldDirS x6
    refine callK_of (c_heldDirS x6 _ _ ?_ ?_) ?_
    · omega
    · omega
    simp -implicitDefEqProofs [hlt, ea, hel]
    try simp (disch := omega) only [wrap64, Int.tmod_eq_emod_of_nonneg]
    refine ⟨fun h => by omega, fun _ => ?_⟩
    try simp (disch := omega) only [wrap64, Int.tmod_eq_emod_of_nonneg]
    have hc7 := c_heldSelS x7
    refine callK_of (c_heldSelS x7 _ _ ?_ ?_) ?_
    · omega
    · omega
    simp -implicitDefEqProofs [hlt, ea, hel]
    try simp (disch := omega) only [wrap64, Int.tmod_eq_emod_of_nonneg]
    refine ⟨fun h => by omega, fun _ => ?_⟩
    try simp (disch := omega) only [wrap64, Int.tmod_eq_emod_of_nonneg]
    try simp -implicitDefEqProofs [hlt, ea, hel]
    have hs2 : at_ (tPlaceS xs) k (i + 1) = n + 1 + 1 + 1 + 1 + 1 + (cnR (tArgS x5) : Nat) + (cnR (tDirS x6) : Nat) + (cnR (tSelS x7) : Nat) := by omega
    refine ⟨xs.length - (i + 1), by omega, _, St.le_of (by simp) (by simp [St.trunc, look, mapV, mapC, killP, hs2]) rfl (by simp [St.trunc, mapC]), (hI _ _).2 ⟨i + 1, by omega, rfl, rfl⟩⟩
  · have e : i = xs.length := by omega
    subst e
    have e1 : at_ (tPlaceS xs) k xs.length = k + cnR (tPlaceS xs) := by have := at_all (rows := tPlaceS xs) (k := k); rwa [tPlaceS_len] at this
    simp -implicitDefEqProofs [e1]
end Go.Proofs.YthagllbnkbahnaaGreat.Abs
