/- PRINTED by marks.py: what the laws write, and look for. No condition. -/
import Derived.Test.YthpbggfajpakkaaGreatMarks
set_option linter.unusedVariables false
set_option linter.unusedSimpArgs false
namespace Go.Proofs.YthpbggfajpakkaaGreat.Abs
open Go
set_option maxHeartbeats 2000000
set_option maxRecDepth 100000
theorem wd_Item : ∀ x : DItem, wdL (tItem x)
  | ⟨x0, ⟨x1, x2, x3, x4, x5⟩, ⟨x6, x7, x8, x9⟩, ⟨x10, x11, x12, x13, x14, x15, x16, x17, x18, x19, x20⟩⟩ => by simp [tItem, tOp, tFrag, tDef, wdL, wdT, wd_VarDefS x3, wd_DirS x4, wd_SelS x5, wd_DirS x8, wd_SelS x9, wd_StrS x14, wd_FieldDefS x15, wd_InDefS x16, wd_EnumDefS x17, wd_RootS x18, wd_DirS x20]
theorem wd_ItemS : ∀ xs : List DItem, wdR (tItemS xs)
  | [] => by simp [tItemS, wdR]
  | x :: xs => by simp only [tItemS, wdR]; exact ⟨by rw [tItem_len]; omega, wd_Item x, wd_ItemS xs⟩
theorem cn_ItemS (xs : List DItem) : cnR (tItemS xs) ≤ 40 * (xs.length + szR (tItemS xs)) := by
  have := cnR_le _ (wd_ItemS xs); rwa [tItemS_len] at this
theorem wd_Doc : ∀ x : DDoc, wdL (tDoc x)
  | ⟨x0⟩ => by simp [tDoc, wdL, wdT, wd_ItemS x0]
theorem wd_DocS : ∀ xs : List DDoc, wdR (tDocS xs)
  | [] => by simp [tDocS, wdR]
  | x :: xs => by simp only [tDocS, wdR]; exact ⟨by rw [tDoc_len]; omega, wd_Doc x, wd_DocS xs⟩
theorem cn_DocS (xs : List DDoc) : cnR (tDocS xs) ≤ 40 * (xs.length + szR (tDocS xs)) := by
  have := cnR_le _ (wd_DocS xs); rwa [tDocS_len] at this
theorem c_markItemS (xs : List DItem) (k : Int) (K : List (List (List AC))) (h1 : 0 ≤ k) (h2 : k + cnR (tItemS xs) < 1000000000000000000) : CtB Tryz.prog 103 [.sl (.ex 154) xs.length (encR .ex (tItemS xs)), .int .i64 k] K (.int .i64 (k + cnR (tItemS xs))) K (.sl (.ex 154) xs.length (encR .ex (mkR (tItemS xs) k))) := by
  refine ct_fnB { n0 := 6, ex := [], tk := [], es := true, bw := [107, 93, 33, 73, 130, 131, 132, 71] } Tryz.func103 rfl (by kernel_rfl) (by kernel_rfl) rfl (fun y => ?_)
  simp -implicitDefEqProofs [Tryz.f103]
  obtain ⟨I, hI⟩ : ∃ I : Nat → St → Prop, ∀ m s, I m s ↔ ∃ i, i ≤ xs.length ∧ m = xs.length - i ∧
    s = { env := [(0, .nam y (.sl (.ex 154) xs.length (encR .ex (part (tItemS xs) k i)))), (1, .int .i64 (at_ (tItemS xs) k i)), (4, .int .i64 0), (5, .int .i64 i)], loc := [], K := [] :: K } := ⟨_, fun _ _ => Iff.rfl⟩
  refine wC_loopI I xs.length ((hI _ _).2 ⟨0, by omega, rfl, rfl⟩) (St.le_of (by simp) (by simp [part_zero, at_zero]) rfl rfl) ?_
  intro m s hs
  obtain ⟨i, hi, rfl, rfl⟩ := (hI _ _).1 hs
  rcases Nat.lt_or_ge i xs.length with hlt | hge
  · obtain ⟨x, hx⟩ : ∃ x, xs[i]? = some x := ⟨_, List.getElem?_eq_getElem hlt⟩
    have hr := tItemS_get hx
    have hpl : (pre (tItemS xs) k i).length = i * 21 := pre_len (w := 21) tItemS_rows (by simp; omega)
    obtain ⟨x0, ⟨x1, x2, x3, x4, x5⟩, ⟨x6, x7, x8, x9⟩, ⟨x10, x11, x12, x13, x14, x15, x16, x17, x18, x19, x20⟩⟩ := x
    simp only [tItem, tOp, tFrag, tDef, List.cons_append, List.nil_append] at hr
    rw [part_at hr]
    have hnext := part_next (k := k) hr
    have hsucc := at_succ (k := k) hr
    have hbnd := at_bnd (k := k) hr
    generalize hat : at_ (tItemS xs) k i = n at *
    simp only [encL, encT, cnL, cnT, mkL, mkT, mkR_len, Md.ow_ex, Nat.add_zero, List.cons_append, List.nil_append, tVarDefS_len, tDirS_len, tSelS_len, tStrS_len, tFieldDefS_len, tInDefS_len, tEnumDefS_len, tRootS_len] at hnext hsucc hbnd ⊢
    simp -implicitDefEqProofs [hlt, -putCells, Nat.add_assoc, put_app hpl, put_app0 hpl, len_app hpl, td_app hpl, td_app0 hpl, get_app hpl, get_app0 hpl, getE_app hpl, getE_app0 hpl, set_app hpl, set_app0 hpl]
    intro hm
    unfold maxLen at hm
    try simp (disch := omega) only [wrap64, Int.tmod_eq_emod_of_nonneg]
    repeat refine And.intro (by omega) ?_
    refine callK_of (c_markText _ _ ?_ ?_) ?_
    · omega
    · omega
    simp -implicitDefEqProofs [hlt, -putCells, Nat.add_assoc, put_app hpl, put_app0 hpl, len_app hpl, td_app hpl, td_app0 hpl, get_app hpl, get_app0 hpl, getE_app hpl, getE_app0 hpl, set_app hpl, set_app0 hpl]
    try simp (disch := omega) only [wrap64, Int.tmod_eq_emod_of_nonneg]
    repeat refine And.intro (by omega) ?_
    intro z3
    refine endB_of (c_markVarDefS x3 _ _ ?_ ?_) (by simp) ?_
    · omega
    · omega
    simp -implicitDefEqProofs [hlt, -putCells, Nat.add_assoc, put_app hpl, put_app0 hpl, len_app hpl, td_app hpl, td_app0 hpl, get_app hpl, get_app0 hpl, getE_app hpl, getE_app0 hpl, set_app hpl, set_app0 hpl]
    try simp (disch := omega) only [wrap64, Int.tmod_eq_emod_of_nonneg]
    repeat refine And.intro (by omega) ?_
    intro z4
    refine endB_of (c_markDirS x4 _ _ ?_ ?_) (by simp) ?_
    · omega
    · omega
    simp -implicitDefEqProofs [hlt, -putCells, Nat.add_assoc, put_app hpl, put_app0 hpl, len_app hpl, td_app hpl, td_app0 hpl, get_app hpl, get_app0 hpl, getE_app hpl, getE_app0 hpl, set_app hpl, set_app0 hpl]
    try simp (disch := omega) only [wrap64, Int.tmod_eq_emod_of_nonneg]
    repeat refine And.intro (by omega) ?_
    intro z5
    refine endB_of (c_markSelS x5 _ _ ?_ ?_) (by simp) ?_
    · omega
    · omega
    simp -implicitDefEqProofs [hlt, -putCells, Nat.add_assoc, put_app hpl, put_app0 hpl, len_app hpl, td_app hpl, td_app0 hpl, get_app hpl, get_app0 hpl, getE_app hpl, getE_app0 hpl, set_app hpl, set_app0 hpl]
    try simp (disch := omega) only [wrap64, Int.tmod_eq_emod_of_nonneg]
    repeat refine And.intro (by omega) ?_
    refine callK_of (c_markText _ _ ?_ ?_) ?_
    · omega
    · omega
    simp -implicitDefEqProofs [hlt, -putCells, Nat.add_assoc, put_app hpl, put_app0 hpl, len_app hpl, td_app hpl, td_app0 hpl, get_app hpl, get_app0 hpl, getE_app hpl, getE_app0 hpl, set_app hpl, set_app0 hpl]
    try simp (disch := omega) only [wrap64, Int.tmod_eq_emod_of_nonneg]
    repeat refine And.intro (by omega) ?_
    refine callK_of (c_markText _ _ ?_ ?_) ?_
    · omega
    · omega
    simp -implicitDefEqProofs [hlt, -putCells, Nat.add_assoc, put_app hpl, put_app0 hpl, len_app hpl, td_app hpl, td_app0 hpl, get_app hpl, get_app0 hpl, getE_app hpl, getE_app0 hpl, set_app hpl, set_app0 hpl]
    try simp (disch := omega) only [wrap64, Int.tmod_eq_emod_of_nonneg]
    repeat refine And.intro (by omega) ?_
    intro z8
    refine endB_of (c_markDirS x8 _ _ ?_ ?_) (by simp) ?_
    · omega
    · omega
    simp -implicitDefEqProofs [hlt, -putCells, Nat.add_assoc, put_app hpl, put_app0 hpl, len_app hpl, td_app hpl, td_app0 hpl, get_app hpl, get_app0 hpl, getE_app hpl, getE_app0 hpl, set_app hpl, set_app0 hpl]
    try simp (disch := omega) only [wrap64, Int.tmod_eq_emod_of_nonneg]
    repeat refine And.intro (by omega) ?_
    intro z9
    refine endB_of (c_markSelS x9 _ _ ?_ ?_) (by simp) ?_
    · omega
    · omega
    simp -implicitDefEqProofs [hlt, -putCells, Nat.add_assoc, put_app hpl, put_app0 hpl, len_app hpl, td_app hpl, td_app0 hpl, get_app hpl, get_app0 hpl, getE_app hpl, getE_app0 hpl, set_app hpl, set_app0 hpl]
    try simp (disch := omega) only [wrap64, Int.tmod_eq_emod_of_nonneg]
    repeat refine And.intro (by omega) ?_
    refine callK_of (c_markText _ _ ?_ ?_) ?_
    · omega
    · omega
    simp -implicitDefEqProofs [hlt, -putCells, Nat.add_assoc, put_app hpl, put_app0 hpl, len_app hpl, td_app hpl, td_app0 hpl, get_app hpl, get_app0 hpl, getE_app hpl, getE_app0 hpl, set_app hpl, set_app0 hpl]
    try simp (disch := omega) only [wrap64, Int.tmod_eq_emod_of_nonneg]
    repeat refine And.intro (by omega) ?_
    refine callK_of (c_markText _ _ ?_ ?_) ?_
    · omega
    · omega
    simp -implicitDefEqProofs [hlt, -putCells, Nat.add_assoc, put_app hpl, put_app0 hpl, len_app hpl, td_app hpl, td_app0 hpl, get_app hpl, get_app0 hpl, getE_app hpl, getE_app0 hpl, set_app hpl, set_app0 hpl]
    try simp (disch := omega) only [wrap64, Int.tmod_eq_emod_of_nonneg]
    repeat refine And.intro (by omega) ?_
    intro z14
    refine endB_of (c_markStringS x14 _ _ ?_ ?_) (by simp) ?_
    · omega
    · omega
    simp -implicitDefEqProofs [hlt, -putCells, Nat.add_assoc, put_app hpl, put_app0 hpl, len_app hpl, td_app hpl, td_app0 hpl, get_app hpl, get_app0 hpl, getE_app hpl, getE_app0 hpl, set_app hpl, set_app0 hpl]
    try simp (disch := omega) only [wrap64, Int.tmod_eq_emod_of_nonneg]
    repeat refine And.intro (by omega) ?_
    intro z15
    refine endB_of (c_markFieldDefS x15 _ _ ?_ ?_) (by simp) ?_
    · omega
    · omega
    simp -implicitDefEqProofs [hlt, -putCells, Nat.add_assoc, put_app hpl, put_app0 hpl, len_app hpl, td_app hpl, td_app0 hpl, get_app hpl, get_app0 hpl, getE_app hpl, getE_app0 hpl, set_app hpl, set_app0 hpl]
    try simp (disch := omega) only [wrap64, Int.tmod_eq_emod_of_nonneg]
    repeat refine And.intro (by omega) ?_
    intro z16
    refine endB_of (c_markInDefS x16 _ _ ?_ ?_) (by simp) ?_
    · omega
    · omega
    simp -implicitDefEqProofs [hlt, -putCells, Nat.add_assoc, put_app hpl, put_app0 hpl, len_app hpl, td_app hpl, td_app0 hpl, get_app hpl, get_app0 hpl, getE_app hpl, getE_app0 hpl, set_app hpl, set_app0 hpl]
    try simp (disch := omega) only [wrap64, Int.tmod_eq_emod_of_nonneg]
    repeat refine And.intro (by omega) ?_
    intro z17
    refine endB_of (c_markEnumDefS x17 _ _ ?_ ?_) (by simp) ?_
    · omega
    · omega
    simp -implicitDefEqProofs [hlt, -putCells, Nat.add_assoc, put_app hpl, put_app0 hpl, len_app hpl, td_app hpl, td_app0 hpl, get_app hpl, get_app0 hpl, getE_app hpl, getE_app0 hpl, set_app hpl, set_app0 hpl]
    try simp (disch := omega) only [wrap64, Int.tmod_eq_emod_of_nonneg]
    repeat refine And.intro (by omega) ?_
    intro z18
    refine endB_of (c_markRootS x18 _ _ ?_ ?_) (by simp) ?_
    · omega
    · omega
    simp -implicitDefEqProofs [hlt, -putCells, Nat.add_assoc, put_app hpl, put_app0 hpl, len_app hpl, td_app hpl, td_app0 hpl, get_app hpl, get_app0 hpl, getE_app hpl, getE_app0 hpl, set_app hpl, set_app0 hpl]
    try simp (disch := omega) only [wrap64, Int.tmod_eq_emod_of_nonneg]
    repeat refine And.intro (by omega) ?_
    intro z20
    refine endB_of (c_markDirS x20 _ _ ?_ ?_) (by simp) ?_
    · omega
    · omega
    simp -implicitDefEqProofs [hlt, -putCells, Nat.add_assoc, put_app hpl, put_app0 hpl, len_app hpl, td_app hpl, td_app0 hpl, get_app hpl, get_app0 hpl, getE_app hpl, getE_app0 hpl, set_app hpl, set_app0 hpl]
    try simp (disch := omega) only [wrap64, Int.tmod_eq_emod_of_nonneg]
    repeat refine And.intro (by omega) ?_
    simp only [Int.cast_ofNat_Int] at hnext
    have hs2 : at_ (tItemS xs) k (i + 1) = n + 1 + 1 + 1 + (cnR (tVarDefS x3) : Nat) + (cnR (tDirS x4) : Nat) + (cnR (tSelS x5) : Nat) + 1 + 1 + (cnR (tDirS x8) : Nat) + (cnR (tSelS x9) : Nat) + 1 + 1 + 1 + 1 + (cnR (tStrS x14) : Nat) + (cnR (tFieldDefS x15) : Nat) + (cnR (tInDefS x16) : Nat) + (cnR (tEnumDefS x17) : Nat) + (cnR (tRootS x18) : Nat) + 1 + (cnR (tDirS x20) : Nat) := by omega
    have fin : ∀ (C : List AC) (q r : Int) (L : List (Nat × AC)), C = encR .ex (part (tItemS xs) k (i + 1)) → q = at_ (tItemS xs) k (i + 1) → r = ((i + 1 : Nat) : Int) →
        roundK I (xs.length - i) 0 { env := [(0, .nam y (.sl (.ex 154) xs.length C)), (1, .int .i64 q), (4, .int .i64 0), (5, .int .i64 r)], loc := L, K := [] :: K } := by
      rintro C q r L rfl rfl rfl
      exact ⟨xs.length - (i + 1), by omega, _, St.le_of (by simp) (by simp [St.trunc, look, mapV, mapC, killP]) rfl (by simp [St.trunc, mapC]), (hI _ _).2 ⟨i + 1, by omega, rfl, rfl⟩⟩
    refine fin _ _ _ _ ?_ hs2.symm (by omega)
    clear fin
    refine Eq.trans ?_ hnext
    refine congrArg (fun c => pre (tItemS xs) k i ++ c) ?_
    refine congr (congrArg List.cons (by with_reducible rfl)) ?_
    refine congr (congrArg List.cons (by with_reducible rfl)) ?_
    refine congr (congrArg List.cons (by with_reducible rfl)) ?_
    refine congr (congrArg List.cons (by with_reducible rfl)) ?_
    refine congr (congrArg List.cons (by with_reducible rfl)) ?_
    refine congr (congrArg List.cons (by with_reducible rfl)) ?_
    refine congr (congrArg List.cons (by with_reducible rfl)) ?_
    refine congr (congrArg List.cons (by with_reducible rfl)) ?_
    refine congr (congrArg List.cons (by with_reducible rfl)) ?_
    refine congr (congrArg List.cons (by with_reducible rfl)) ?_
    refine congr (congrArg List.cons (by with_reducible rfl)) ?_
    refine congr (congrArg List.cons ?_) ?_
    · exact congrArg AC.bool ((@decide_eq_decide _ _ _ _).2 Iff.rfl)
    refine congr (congrArg List.cons (by with_reducible rfl)) ?_
    refine congr (congrArg List.cons (by with_reducible rfl)) ?_
    refine congr (congrArg List.cons (by with_reducible rfl)) ?_
    refine congr (congrArg List.cons (by with_reducible rfl)) ?_
    refine congr (congrArg List.cons (by with_reducible rfl)) ?_
    refine congr (congrArg List.cons (by with_reducible rfl)) ?_
    refine congr (congrArg List.cons (by with_reducible rfl)) ?_
    refine congr (congrArg List.cons ?_) ?_
    · exact congrArg AC.bool ((@decide_eq_decide _ _ _ _).2 Iff.rfl)
    refine congr (congrArg List.cons (by with_reducible rfl)) ?_
    with_reducible rfl
  · have e : i = xs.length := by omega
    subst e
    have e1 : at_ (tItemS xs) k xs.length = k + cnR (tItemS xs) := by have := at_all (rows := tItemS xs) (k := k); rwa [tItemS_len] at this
    have e2 : part (tItemS xs) k xs.length = mkR (tItemS xs) k := by have := part_all (rows := tItemS xs) (k := k); rwa [tItemS_len] at this
    simp -implicitDefEqProofs [e1, e2]
end Go.Proofs.YthpbggfajpakkaaGreat.Abs
