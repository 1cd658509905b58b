/- PRINTED by marks.py: what the laws write, and look for. No condition. -/
import Derived.Test.YtkpdlbidadcdjaaMk
set_option linter.unusedVariables false
set_option linter.unusedSimpArgs false
namespace Go.Proofs.Ytkpdlbidadcdjaa.Abs
open Go
set_option maxHeartbeats 2000000
set_option maxRecDepth 100000
mutual
theorem wd_Value : ∀ x : DValue, wdL (tValue x)
  | ⟨x0, x1, x2, x3⟩ => by simp [tValue, wdL, wdT, wd_ValueS x2, wd_StrS x3]
theorem wd_ValueS : ∀ xs : List DValue, wdR (tValueS xs)
  | [] => by simp [tValueS, wdR]
  | x :: xs => by simp only [tValueS, wdR]; exact ⟨by rw [tValue_len]; omega, wd_Value x, wd_ValueS xs⟩
end
theorem cn_ValueS (xs : List DValue) : cnR (tValueS xs) ≤ 40 * (xs.length + szR (tValueS xs)) := by
  have := cnR_le _ (wd_ValueS xs); rwa [tValueS_len] at this
theorem wd_Arg : ∀ x : DArg, wdL (tArg x)
  | ⟨x0, ⟨x1, x2, x3, x4⟩⟩ => by simp [tArg, tValue, wdL, wdT, wd_ValueS x3, wd_StrS x4]
theorem wd_ArgS : ∀ xs : List DArg, wdR (tArgS xs)
  | [] => by simp [tArgS, wdR]
  | x :: xs => by simp only [tArgS, wdR]; exact ⟨by rw [tArg_len]; omega, wd_Arg x, wd_ArgS xs⟩
theorem cn_ArgS (xs : List DArg) : cnR (tArgS xs) ≤ 40 * (xs.length + szR (tArgS xs)) := by
  have := cnR_le _ (wd_ArgS xs); rwa [tArgS_len] at this
theorem wd_Dir : ∀ x : DDir, wdL (tDir x)
  | ⟨x0, x1⟩ => by simp [tDir, wdL, wdT, wd_ArgS x1]
theorem wd_DirS : ∀ xs : List DDir, wdR (tDirS xs)
  | [] => by simp [tDirS, wdR]
  | x :: xs => by simp only [tDirS, wdR]; exact ⟨by rw [tDir_len]; omega, wd_Dir x, wd_DirS xs⟩
theorem cn_DirS (xs : List DDir) : cnR (tDirS xs) ≤ 40 * (xs.length + szR (tDirS xs)) := by
  have := cnR_le _ (wd_DirS xs); rwa [tDirS_len] at this
mutual
theorem wd_Sel : ∀ x : DSel, wdL (tSel x)
  | ⟨x0, x1, x2, x3, x4, x5, x6⟩ => by simp [tSel, wdL, wdT, wd_ArgS x4, wd_DirS x5, wd_SelS x6]
theorem wd_SelS : ∀ xs : List DSel, wdR (tSelS xs)
  | [] => by simp [tSelS, wdR]
  | x :: xs => by simp only [tSelS, wdR]; exact ⟨by rw [tSel_len]; omega, wd_Sel x, wd_SelS xs⟩
end
theorem cn_SelS (xs : List DSel) : cnR (tSelS xs) ≤ 40 * (xs.length + szR (tSelS xs)) := by
  have := cnR_le _ (wd_SelS xs); rwa [tSelS_len] at this
theorem wd_Frag : ∀ x : DFrag, wdL (tFrag x)
  | ⟨x0, x1, x2, x3⟩ => by simp [tFrag, wdL, wdT, wd_DirS x2, wd_SelS x3]
theorem wd_FragS : ∀ xs : List DFrag, wdR (tFragS xs)
  | [] => by simp [tFragS, wdR]
  | x :: xs => by simp only [tFragS, wdR]; exact ⟨by rw [tFrag_len]; omega, wd_Frag x, wd_FragS xs⟩
theorem cn_FragS (xs : List DFrag) : cnR (tFragS xs) ≤ 40 * (xs.length + szR (tFragS xs)) := by
  have := cnR_le _ (wd_FragS xs); rwa [tFragS_len] at this
theorem c_heldStringS (xs : List Bs) (k : Int) (K : List (List (List AC))) (h1 : 0 ≤ k) (h2 : k + cnR (tStrS xs) < 1000000000000000000) : Ct Try.prog 16 [.sl .no xs.length (encR .no (mkR (tStrS xs) k)), .int .i64 k] K (.int .i64 (k + cnR (tStrS xs))) K := by
  refine ct_fn { n0 := 6, ex := [], tk := [] } Try.func16 rfl (by kernel_rfl) (by kernel_rfl) rfl ?_
  simp -implicitDefEqProofs [Try.f16]
  obtain ⟨I, hI⟩ : ∃ I : Nat → St → Prop, ∀ m s, I m s ↔ ∃ i, i ≤ xs.length ∧ m = xs.length - i ∧
    s = { env := [(0, .sl .no xs.length (encR .no (mkR (tStrS xs) k))), (1, .int .i64 (at_ (tStrS xs) k i)), (4, .int .i64 0), (5, .int .i64 i)], loc := [], K := [] :: K } := ⟨_, fun _ _ => Iff.rfl⟩
  refine wC_loopI I xs.length ((hI _ _).2 ⟨0, by omega, rfl, rfl⟩) (St.le_of (by simp) (by simp [at_zero]) rfl rfl) ?_
  intro m s hs
  obtain ⟨i, hi, rfl, rfl⟩ := (hI _ _).1 hs
  rcases Nat.lt_or_ge i xs.length with hlt | hge
  · obtain ⟨x, hx⟩ : ∃ x, xs[i]? = some x := ⟨_, List.getElem?_eq_getElem hlt⟩
    have hr := tStrS_get hx
    have hel : (encR .no (mkR (tStrS xs) k)).length = xs.length * 1 := by rw [encMk_len (w := 1) tStrS_rows, tStrS_len]
    skip
    skip
    have ea := row_at (m := .no) (mkR_rows (k := k) tStrS_rows) (mkR_get (k := k) hr)
    have hsucc := at_succ (k := k) hr
    have hbnd := at_bnd (k := k) hr
    generalize hat : at_ (tStrS xs) k i = n at *
    simp only [encL, encT, cnL, cnT, mkL, mkT, mkR_len, Md.ow_no, Nat.mul_one, Nat.add_zero, List.cons_append, List.nil_append] at ea hsucc hbnd hel ⊢
    simp -implicitDefEqProofs [hlt, ea, hel]
    intro hm
    unfold maxLen at hm
    try simp (disch := omega) only [wrap64, Int.tmod_eq_emod_of_nonneg]
    refine wRun_draw true rfl (by decide +kernel) ?_
    simp -implicitDefEqProofs [hlt, ea, hel]
    try simp (disch := omega) only [wrap64, Int.tmod_eq_emod_of_nonneg]
    refine callK_of (c_markText _ _ ?_ ?_) ?_
    · omega
    · omega
    simp -implicitDefEqProofs [hlt, ea, hel]
    try simp (disch := omega) only [wrap64, Int.tmod_eq_emod_of_nonneg]
    try simp only [not_true_eq_false, false_implies, true_implies, true_and]
    try simp -implicitDefEqProofs [hlt, ea, hel]
    have hs2 : at_ (tStrS xs) k (i + 1) = n + 1 := by omega
    refine ⟨xs.length - (i + 1), by omega, _, St.le_of (by simp) (by simp [St.trunc, look, mapV, mapC, killP, hs2]) rfl (by simp [St.trunc, mapC]), (hI _ _).2 ⟨i + 1, by omega, rfl, rfl⟩⟩
  · have e : i = xs.length := by omega
    subst e
    have e1 : at_ (tStrS xs) k xs.length = k + cnR (tStrS xs) := by have := at_all (rows := tStrS xs) (k := k); rwa [tStrS_len] at this
    simp -implicitDefEqProofs [e1]
theorem c_markValueS_rec : ∀ N : Nat, ∀ (xs : List DValue) (k : Int) (K : List (List (List AC))) (h1 : 0 ≤ k) (h2 : k + cnR (tValueS xs) < 1000000000000000000) (hN : SizeOf.sizeOf xs < N), CtB Try.prog 50 [.sl (.ex 85) xs.length (encR .ex (tValueS xs)), .int .i64 k] K (.int .i64 (k + cnR (tValueS xs))) K (.sl (.ex 85) xs.length (encR .ex (mkR (tValueS xs) k))) := by
  intro N
  induction N with
  | zero => intros; omega
  | succ N ih =>
  intro xs k K h1 h2 hN
  refine ct_fnB { n0 := 6, ex := [], tk := [], es := true, bw := [50, 15] } Try.func50 rfl (by kernel_rfl) (by kernel_rfl) rfl (fun y => ?_)
  simp -implicitDefEqProofs [Try.f50]
  obtain ⟨I, hI⟩ : ∃ I : Nat → St → Prop, ∀ m s, I m s ↔ ∃ i, i ≤ xs.length ∧ m = xs.length - i ∧
    s = { env := [(0, .nam y (.sl (.ex 85) xs.length (encR .ex (part (tValueS xs) k i)))), (1, .int .i64 (at_ (tValueS xs) k i)), (4, .int .i64 0), (5, .int .i64 i)], loc := [], K := [] :: K } := ⟨_, fun _ _ => Iff.rfl⟩
  refine wC_loopI I xs.length ((hI _ _).2 ⟨0, by omega, rfl, rfl⟩) (St.le_of (by simp) (by simp [part_zero, at_zero]) rfl rfl) ?_
  intro m s hs
  obtain ⟨i, hi, rfl, rfl⟩ := (hI _ _).1 hs
  rcases Nat.lt_or_ge i xs.length with hlt | hge
  · obtain ⟨x, hx⟩ : ∃ x, xs[i]? = some x := ⟨_, List.getElem?_eq_getElem hlt⟩
    have hr := tValueS_get hx
    have hpl : (pre (tValueS xs) k i).length = i * 4 := pre_len (w := 4) tValueS_rows (by simp; omega)
    obtain ⟨x0, x1, x2, x3⟩ := x
    simp only [tValue, List.cons_append, List.nil_append] at hr
    rw [part_at hr]
    have hnext := part_next (k := k) hr
    have hsucc := at_succ (k := k) hr
    have hbnd := at_bnd (k := k) hr
    generalize hat : at_ (tValueS xs) k i = n at *
    simp only [encL, encT, cnL, cnT, mkL, mkT, mkR_len, Md.ow_ex, Nat.add_zero, List.cons_append, List.nil_append, tValueS_len, tStrS_len] at hnext hsucc hbnd ⊢
    simp -implicitDefEqProofs [hlt, -putCells, Nat.add_assoc, put_app hpl, put_app0 hpl, len_app hpl, td_app hpl, td_app0 hpl, get_app hpl, get_app0 hpl, getE_app hpl, getE_app0 hpl, set_app hpl, set_app0 hpl]
    intro hm
    unfold maxLen at hm
    try simp (disch := omega) only [wrap64, Int.tmod_eq_emod_of_nonneg]
    repeat refine And.intro (by omega) ?_
    refine callK_of (c_markText _ _ ?_ ?_) ?_
    · omega
    · omega
    simp -implicitDefEqProofs [hlt, -putCells, Nat.add_assoc, put_app hpl, put_app0 hpl, len_app hpl, td_app hpl, td_app0 hpl, get_app hpl, get_app0 hpl, getE_app hpl, getE_app0 hpl, set_app hpl, set_app0 hpl]
    try simp (disch := omega) only [wrap64, Int.tmod_eq_emod_of_nonneg]
    repeat refine And.intro (by omega) ?_
    intro z2
    refine endB_of (ih x2 _ _ ?_ ?_ (by have h5 := List.sizeOf_lt_of_mem (List.mem_of_getElem? hx); simp at h5; omega)) (by simp) ?_
    · omega
    · omega
    simp -implicitDefEqProofs [hlt, -putCells, Nat.add_assoc, put_app hpl, put_app0 hpl, len_app hpl, td_app hpl, td_app0 hpl, get_app hpl, get_app0 hpl, getE_app hpl, getE_app0 hpl, set_app hpl, set_app0 hpl]
    try simp (disch := omega) only [wrap64, Int.tmod_eq_emod_of_nonneg]
    repeat refine And.intro (by omega) ?_
    intro z3
    refine endB_of (c_markStringS x3 _ _ ?_ ?_) (by simp) ?_
    · omega
    · omega
    simp -implicitDefEqProofs [hlt, -putCells, Nat.add_assoc, put_app hpl, put_app0 hpl, len_app hpl, td_app hpl, td_app0 hpl, get_app hpl, get_app0 hpl, getE_app hpl, getE_app0 hpl, set_app hpl, set_app0 hpl]
    try simp (disch := omega) only [wrap64, Int.tmod_eq_emod_of_nonneg]
    repeat refine And.intro (by omega) ?_
    simp only [Int.cast_ofNat_Int] at hnext
    have hs2 : at_ (tValueS xs) k (i + 1) = n + 1 + 1 + (cnR (tValueS x2) : Nat) + (cnR (tStrS x3) : Nat) := by omega
    refine ⟨xs.length - (i + 1), by omega, _, St.le_of (by simp) (by simp [St.trunc, look, mapV, mapC, killP, hnext, hs2]) rfl (by simp [St.trunc, mapC]), (hI _ _).2 ⟨i + 1, by omega, rfl, rfl⟩⟩
  · have e : i = xs.length := by omega
    subst e
    have e1 : at_ (tValueS xs) k xs.length = k + cnR (tValueS xs) := by have := at_all (rows := tValueS xs) (k := k); rwa [tValueS_len] at this
    have e2 : part (tValueS xs) k xs.length = mkR (tValueS xs) k := by have := part_all (rows := tValueS xs) (k := k); rwa [tValueS_len] at this
    simp -implicitDefEqProofs [e1, e2]
theorem c_markValueS (xs : List DValue) (k : Int) (K : List (List (List AC))) (h1 : 0 ≤ k) (h2 : k + cnR (tValueS xs) < 1000000000000000000) : CtB Try.prog 50 [.sl (.ex 85) xs.length (encR .ex (tValueS xs)), .int .i64 k] K (.int .i64 (k + cnR (tValueS xs))) K (.sl (.ex 85) xs.length (encR .ex (mkR (tValueS xs) k))) := c_markValueS_rec _ xs k K h1 h2 (Nat.lt_succ_self _)
theorem c_markArgS (xs : List DArg) (k : Int) (K : List (List (List AC))) (h1 : 0 ≤ k) (h2 : k + cnR (tArgS xs) < 1000000000000000000) : CtB Try.prog 34 [.sl (.ex 87) xs.length (encR .ex (tArgS xs)), .int .i64 k] K (.int .i64 (k + cnR (tArgS xs))) K (.sl (.ex 87) xs.length (encR .ex (mkR (tArgS xs) k))) := by
  refine ct_fnB { n0 := 6, ex := [], tk := [], es := true, bw := [50, 15] } Try.func34 rfl (by kernel_rfl) (by kernel_rfl) rfl (fun y => ?_)
  simp -implicitDefEqProofs [Try.f34]
  obtain ⟨I, hI⟩ : ∃ I : Nat → St → Prop, ∀ m s, I m s ↔ ∃ i, i ≤ xs.length ∧ m = xs.length - i ∧
    s = { env := [(0, .nam y (.sl (.ex 87) xs.length (encR .ex (part (tArgS xs) k i)))), (1, .int .i64 (at_ (tArgS xs) k i)), (4, .int .i64 0), (5, .int .i64 i)], loc := [], K := [] :: K } := ⟨_, fun _ _ => Iff.rfl⟩
  refine wC_loopI I xs.length ((hI _ _).2 ⟨0, by omega, rfl, rfl⟩) (St.le_of (by simp) (by simp [part_zero, at_zero]) rfl rfl) ?_
  intro m s hs
  obtain ⟨i, hi, rfl, rfl⟩ := (hI _ _).1 hs
  rcases Nat.lt_or_ge i xs.length with hlt | hge
  · obtain ⟨x, hx⟩ : ∃ x, xs[i]? = some x := ⟨_, List.getElem?_eq_getElem hlt⟩
    have hr := tArgS_get hx
    have hpl : (pre (tArgS xs) k i).length = i * 5 := pre_len (w := 5) tArgS_rows (by simp; omega)
    obtain ⟨x0, ⟨x1, x2, x3, x4⟩⟩ := x
    simp only [tArg, tValue, List.cons_append, List.nil_append] at hr
    rw [part_at hr]
    have hnext := part_next (k := k) hr
    have hsucc := at_succ (k := k) hr
    have hbnd := at_bnd (k := k) hr
    generalize hat : at_ (tArgS xs) k i = n at *
    simp only [encL, encT, cnL, cnT, mkL, mkT, mkR_len, Md.ow_ex, Nat.add_zero, List.cons_append, List.nil_append, tValueS_len, tStrS_len] at hnext hsucc hbnd ⊢
    simp -implicitDefEqProofs [hlt, -putCells, Nat.add_assoc, put_app hpl, put_app0 hpl, len_app hpl, td_app hpl, td_app0 hpl, get_app hpl, get_app0 hpl, getE_app hpl, getE_app0 hpl, set_app hpl, set_app0 hpl]
    intro hm
    unfold maxLen at hm
    try simp (disch := omega) only [wrap64, Int.tmod_eq_emod_of_nonneg]
    repeat refine And.intro (by omega) ?_
    refine callK_of (c_markText _ _ ?_ ?_) ?_
    · omega
    · omega
    simp -implicitDefEqProofs [hlt, -putCells, Nat.add_assoc, put_app hpl, put_app0 hpl, len_app hpl, td_app hpl, td_app0 hpl, get_app hpl, get_app0 hpl, getE_app hpl, getE_app0 hpl, set_app hpl, set_app0 hpl]
    try simp (disch := omega) only [wrap64, Int.tmod_eq_emod_of_nonneg]
    repeat refine And.intro (by omega) ?_
    refine callK_of (c_markText _ _ ?_ ?_) ?_
    · omega
    · omega
    simp -implicitDefEqProofs [hlt, -putCells, Nat.add_assoc, put_app hpl, put_app0 hpl, len_app hpl, td_app hpl, td_app0 hpl, get_app hpl, get_app0 hpl, getE_app hpl, getE_app0 hpl, set_app hpl, set_app0 hpl]
    try simp (disch := omega) only [wrap64, Int.tmod_eq_emod_of_nonneg]
    repeat refine And.intro (by omega) ?_
    intro z3
    refine endB_of (c_markValueS x3 _ _ ?_ ?_) (by simp) ?_
    · omega
    · omega
    simp -implicitDefEqProofs [hlt, -putCells, Nat.add_assoc, put_app hpl, put_app0 hpl, len_app hpl, td_app hpl, td_app0 hpl, get_app hpl, get_app0 hpl, getE_app hpl, getE_app0 hpl, set_app hpl, set_app0 hpl]
    try simp (disch := omega) only [wrap64, Int.tmod_eq_emod_of_nonneg]
    repeat refine And.intro (by omega) ?_
    intro z4
    refine endB_of (c_markStringS x4 _ _ ?_ ?_) (by simp) ?_
    · omega
    · omega
    simp -implicitDefEqProofs [hlt, -putCells, Nat.add_assoc, put_app hpl, put_app0 hpl, len_app hpl, td_app hpl, td_app0 hpl, get_app hpl, get_app0 hpl, getE_app hpl, getE_app0 hpl, set_app hpl, set_app0 hpl]
    try simp (disch := omega) only [wrap64, Int.tmod_eq_emod_of_nonneg]
    repeat refine And.intro (by omega) ?_
    simp only [Int.cast_ofNat_Int] at hnext
    have hs2 : at_ (tArgS xs) k (i + 1) = n + 1 + 1 + 1 + (cnR (tValueS x3) : Nat) + (cnR (tStrS x4) : Nat) := by omega
    refine ⟨xs.length - (i + 1), by omega, _, St.le_of (by simp) (by simp [St.trunc, look, mapV, mapC, killP, hnext, hs2]) rfl (by simp [St.trunc, mapC]), (hI _ _).2 ⟨i + 1, by omega, rfl, rfl⟩⟩
  · have e : i = xs.length := by omega
    subst e
    have e1 : at_ (tArgS xs) k xs.length = k + cnR (tArgS xs) := by have := at_all (rows := tArgS xs) (k := k); rwa [tArgS_len] at this
    have e2 : part (tArgS xs) k xs.length = mkR (tArgS xs) k := by have := part_all (rows := tArgS xs) (k := k); rwa [tArgS_len] at this
    simp -implicitDefEqProofs [e1, e2]
theorem c_markDirS (xs : List DDir) (k : Int) (K : List (List (List AC))) (h1 : 0 ≤ k) (h2 : k + cnR (tDirS xs) < 1000000000000000000) : CtB Try.prog 33 [.sl (.ex 82) xs.length (encR .ex (tDirS xs)), .int .i64 k] K (.int .i64 (k + cnR (tDirS xs))) K (.sl (.ex 82) xs.length (encR .ex (mkR (tDirS xs) k))) := by
  refine ct_fnB { n0 := 6, ex := [], tk := [], es := true, bw := [34] } Try.func33 rfl (by kernel_rfl) (by kernel_rfl) rfl (fun y => ?_)
  simp -implicitDefEqProofs [Try.f33]
  obtain ⟨I, hI⟩ : ∃ I : Nat → St → Prop, ∀ m s, I m s ↔ ∃ i, i ≤ xs.length ∧ m = xs.length - i ∧
    s = { env := [(0, .nam y (.sl (.ex 82) xs.length (encR .ex (part (tDirS xs) k i)))), (1, .int .i64 (at_ (tDirS xs) k i)), (4, .int .i64 0), (5, .int .i64 i)], loc := [], K := [] :: K } := ⟨_, fun _ _ => Iff.rfl⟩
  refine wC_loopI I xs.length ((hI _ _).2 ⟨0, by omega, rfl, rfl⟩) (St.le_of (by simp) (by simp [part_zero, at_zero]) rfl rfl) ?_
  intro m s hs
  obtain ⟨i, hi, rfl, rfl⟩ := (hI _ _).1 hs
  rcases Nat.lt_or_ge i xs.length with hlt | hge
  · obtain ⟨x, hx⟩ : ∃ x, xs[i]? = some x := ⟨_, List.getElem?_eq_getElem hlt⟩
    have hr := tDirS_get hx
    have hpl : (pre (tDirS xs) k i).length = i * 2 := pre_len (w := 2) tDirS_rows (by simp; omega)
    obtain ⟨x0, x1⟩ := x
    simp only [tDir, List.cons_append, List.nil_append] at hr
    rw [part_at hr]
    have hnext := part_next (k := k) hr
    have hsucc := at_succ (k := k) hr
    have hbnd := at_bnd (k := k) hr
    generalize hat : at_ (tDirS xs) k i = n at *
    simp only [encL, encT, cnL, cnT, mkL, mkT, mkR_len, Md.ow_ex, Nat.add_zero, List.cons_append, List.nil_append, tArgS_len] at hnext hsucc hbnd ⊢
    simp -implicitDefEqProofs [hlt, -putCells, Nat.add_assoc, put_app hpl, put_app0 hpl, len_app hpl, td_app hpl, td_app0 hpl, get_app hpl, get_app0 hpl, getE_app hpl, getE_app0 hpl, set_app hpl, set_app0 hpl]
    intro hm
    unfold maxLen at hm
    try simp (disch := omega) only [wrap64, Int.tmod_eq_emod_of_nonneg]
    repeat refine And.intro (by omega) ?_
    refine callK_of (c_markText _ _ ?_ ?_) ?_
    · omega
    · omega
    simp -implicitDefEqProofs [hlt, -putCells, Nat.add_assoc, put_app hpl, put_app0 hpl, len_app hpl, td_app hpl, td_app0 hpl, get_app hpl, get_app0 hpl, getE_app hpl, getE_app0 hpl, set_app hpl, set_app0 hpl]
    try simp (disch := omega) only [wrap64, Int.tmod_eq_emod_of_nonneg]
    repeat refine And.intro (by omega) ?_
    intro z1
    refine endB_of (c_markArgS x1 _ _ ?_ ?_) (by simp) ?_
    · omega
    · omega
    simp -implicitDefEqProofs [hlt, -putCells, Nat.add_assoc, put_app hpl, put_app0 hpl, len_app hpl, td_app hpl, td_app0 hpl, get_app hpl, get_app0 hpl, getE_app hpl, getE_app0 hpl, set_app hpl, set_app0 hpl]
    try simp (disch := omega) only [wrap64, Int.tmod_eq_emod_of_nonneg]
    repeat refine And.intro (by omega) ?_
    simp only [Int.cast_ofNat_Int] at hnext
    have hs2 : at_ (tDirS xs) k (i + 1) = n + 1 + (cnR (tArgS x1) : Nat) := by omega
    refine ⟨xs.length - (i + 1), by omega, _, St.le_of (by simp) (by simp [St.trunc, look, mapV, mapC, killP, hnext, hs2]) rfl (by simp [St.trunc, mapC]), (hI _ _).2 ⟨i + 1, by omega, rfl, rfl⟩⟩
  · have e : i = xs.length := by omega
    subst e
    have e1 : at_ (tDirS xs) k xs.length = k + cnR (tDirS xs) := by have := at_all (rows := tDirS xs) (k := k); rwa [tDirS_len] at this
    have e2 : part (tDirS xs) k xs.length = mkR (tDirS xs) k := by have := part_all (rows := tDirS xs) (k := k); rwa [tDirS_len] at this
    simp -implicitDefEqProofs [e1, e2]
theorem c_markSelS_rec : ∀ N : Nat, ∀ (xs : List DSel) (k : Int) (K : List (List (List AC))) (h1 : 0 ≤ k) (h2 : k + cnR (tSelS xs) < 1000000000000000000) (hN : SizeOf.sizeOf xs < N), CtB Try.prog 14 [.sl (.ex 57) xs.length (encR .ex (tSelS xs)), .int .i64 k] K (.int .i64 (k + cnR (tSelS xs))) K (.sl (.ex 57) xs.length (encR .ex (mkR (tSelS xs) k))) := by
  intro N
  induction N with
  | zero => intros; omega
  | succ N ih =>
  intro xs k K h1 h2 hN
  refine ct_fnB { n0 := 6, ex := [], tk := [], es := true, bw := [34, 33, 14] } Try.func14 rfl (by kernel_rfl) (by kernel_rfl) rfl (fun y => ?_)
  simp -implicitDefEqProofs [Try.f14]
  obtain ⟨I, hI⟩ : ∃ I : Nat → St → Prop, ∀ m s, I m s ↔ ∃ i, i ≤ xs.length ∧ m = xs.length - i ∧
    s = { env := [(0, .nam y (.sl (.ex 57) xs.length (encR .ex (part (tSelS xs) k i)))), (1, .int .i64 (at_ (tSelS xs) k i)), (4, .int .i64 0), (5, .int .i64 i)], loc := [], K := [] :: K } := ⟨_, fun _ _ => Iff.rfl⟩
  refine wC_loopI I xs.length ((hI _ _).2 ⟨0, by omega, rfl, rfl⟩) (St.le_of (by simp) (by simp [part_zero, at_zero]) rfl rfl) ?_
  intro m s hs
  obtain ⟨i, hi, rfl, rfl⟩ := (hI _ _).1 hs
  rcases Nat.lt_or_ge i xs.length with hlt | hge
  · obtain ⟨x, hx⟩ : ∃ x, xs[i]? = some x := ⟨_, List.getElem?_eq_getElem hlt⟩
    have hr := tSelS_get hx
    have hpl : (pre (tSelS xs) k i).length = i * 7 := pre_len (w := 7) tSelS_rows (by simp; omega)
    obtain ⟨x0, x1, x2, x3, x4, x5, x6⟩ := x
    simp only [tSel, List.cons_append, List.nil_append] at hr
    rw [part_at hr]
    have hnext := part_next (k := k) hr
    have hsucc := at_succ (k := k) hr
    have hbnd := at_bnd (k := k) hr
    generalize hat : at_ (tSelS xs) k i = n at *
    simp only [encL, encT, cnL, cnT, mkL, mkT, mkR_len, Md.ow_ex, Nat.add_zero, List.cons_append, List.nil_append, tArgS_len, tDirS_len, tSelS_len] at hnext hsucc hbnd ⊢
    simp -implicitDefEqProofs [hlt, -putCells, Nat.add_assoc, put_app hpl, put_app0 hpl, len_app hpl, td_app hpl, td_app0 hpl, get_app hpl, get_app0 hpl, getE_app hpl, getE_app0 hpl, set_app hpl, set_app0 hpl]
    intro hm
    unfold maxLen at hm
    try simp (disch := omega) only [wrap64, Int.tmod_eq_emod_of_nonneg]
    repeat refine And.intro (by omega) ?_
    refine callK_of (c_markText _ _ ?_ ?_) ?_
    · omega
    · omega
    simp -implicitDefEqProofs [hlt, -putCells, Nat.add_assoc, put_app hpl, put_app0 hpl, len_app hpl, td_app hpl, td_app0 hpl, get_app hpl, get_app0 hpl, getE_app hpl, getE_app0 hpl, set_app hpl, set_app0 hpl]
    try simp (disch := omega) only [wrap64, Int.tmod_eq_emod_of_nonneg]
    repeat refine And.intro (by omega) ?_
    refine callK_of (c_markText _ _ ?_ ?_) ?_
    · omega
    · omega
    simp -implicitDefEqProofs [hlt, -putCells, Nat.add_assoc, put_app hpl, put_app0 hpl, len_app hpl, td_app hpl, td_app0 hpl, get_app hpl, get_app0 hpl, getE_app hpl, getE_app0 hpl, set_app hpl, set_app0 hpl]
    try simp (disch := omega) only [wrap64, Int.tmod_eq_emod_of_nonneg]
    repeat refine And.intro (by omega) ?_
    refine callK_of (c_markText _ _ ?_ ?_) ?_
    · omega
    · omega
    simp -implicitDefEqProofs [hlt, -putCells, Nat.add_assoc, put_app hpl, put_app0 hpl, len_app hpl, td_app hpl, td_app0 hpl, get_app hpl, get_app0 hpl, getE_app hpl, getE_app0 hpl, set_app hpl, set_app0 hpl]
    try simp (disch := omega) only [wrap64, Int.tmod_eq_emod_of_nonneg]
    repeat refine And.intro (by omega) ?_
    intro z4
    refine endB_of (c_markArgS x4 _ _ ?_ ?_) (by simp) ?_
    · omega
    · omega
    simp -implicitDefEqProofs [hlt, -putCells, Nat.add_assoc, put_app hpl, put_app0 hpl, len_app hpl, td_app hpl, td_app0 hpl, get_app hpl, get_app0 hpl, getE_app hpl, getE_app0 hpl, set_app hpl, set_app0 hpl]
    try simp (disch := omega) only [wrap64, Int.tmod_eq_emod_of_nonneg]
    repeat refine And.intro (by omega) ?_
    intro z5
    refine endB_of (c_markDirS x5 _ _ ?_ ?_) (by simp) ?_
    · omega
    · omega
    simp -implicitDefEqProofs [hlt, -putCells, Nat.add_assoc, put_app hpl, put_app0 hpl, len_app hpl, td_app hpl, td_app0 hpl, get_app hpl, get_app0 hpl, getE_app hpl, getE_app0 hpl, set_app hpl, set_app0 hpl]
    try simp (disch := omega) only [wrap64, Int.tmod_eq_emod_of_nonneg]
    repeat refine And.intro (by omega) ?_
    intro z6
    refine endB_of (ih x6 _ _ ?_ ?_ (by have h5 := List.sizeOf_lt_of_mem (List.mem_of_getElem? hx); simp at h5; omega)) (by simp) ?_
    · omega
    · omega
    simp -implicitDefEqProofs [hlt, -putCells, Nat.add_assoc, put_app hpl, put_app0 hpl, len_app hpl, td_app hpl, td_app0 hpl, get_app hpl, get_app0 hpl, getE_app hpl, getE_app0 hpl, set_app hpl, set_app0 hpl]
    try simp (disch := omega) only [wrap64, Int.tmod_eq_emod_of_nonneg]
    repeat refine And.intro (by omega) ?_
    simp only [Int.cast_ofNat_Int] at hnext
    have hs2 : at_ (tSelS xs) k (i + 1) = n + 1 + 1 + 1 + 1 + (cnR (tArgS x4) : Nat) + (cnR (tDirS x5) : Nat) + (cnR (tSelS x6) : Nat) := by omega
    refine ⟨xs.length - (i + 1), by omega, _, St.le_of (by simp) (by simp [St.trunc, look, mapV, mapC, killP, hnext, hs2]) rfl (by simp [St.trunc, mapC]), (hI _ _).2 ⟨i + 1, by omega, rfl, rfl⟩⟩
  · have e : i = xs.length := by omega
    subst e
    have e1 : at_ (tSelS xs) k xs.length = k + cnR (tSelS xs) := by have := at_all (rows := tSelS xs) (k := k); rwa [tSelS_len] at this
    have e2 : part (tSelS xs) k xs.length = mkR (tSelS xs) k := by have := part_all (rows := tSelS xs) (k := k); rwa [tSelS_len] at this
    simp -implicitDefEqProofs [e1, e2]
theorem c_markSelS (xs : List DSel) (k : Int) (K : List (List (List AC))) (h1 : 0 ≤ k) (h2 : k + cnR (tSelS xs) < 1000000000000000000) : CtB Try.prog 14 [.sl (.ex 57) xs.length (encR .ex (tSelS xs)), .int .i64 k] K (.int .i64 (k + cnR (tSelS xs))) K (.sl (.ex 57) xs.length (encR .ex (mkR (tSelS xs) k))) := c_markSelS_rec _ xs k K h1 h2 (Nat.lt_succ_self _)
theorem c_markFragS (xs : List DFrag) (k : Int) (K : List (List (List AC))) (h1 : 0 ≤ k) (h2 : k + cnR (tFragS xs) < 1000000000000000000) : CtB Try.prog 13 [.sl (.ex 51) xs.length (encR .ex (tFragS xs)), .int .i64 k] K (.int .i64 (k + cnR (tFragS xs))) K (.sl (.ex 51) xs.length (encR .ex (mkR (tFragS xs) k))) := by
  refine ct_fnB { n0 := 6, ex := [], tk := [], es := true, bw := [33, 14] } Try.func13 rfl (by kernel_rfl) (by kernel_rfl) rfl (fun y => ?_)
  simp -implicitDefEqProofs [Try.f13]
  obtain ⟨I, hI⟩ : ∃ I : Nat → St → Prop, ∀ m s, I m s ↔ ∃ i, i ≤ xs.length ∧ m = xs.length - i ∧
    s = { env := [(0, .nam y (.sl (.ex 51) xs.length (encR .ex (part (tFragS xs) k i)))), (1, .int .i64 (at_ (tFragS xs) k i)), (4, .int .i64 0), (5, .int .i64 i)], loc := [], K := [] :: K } := ⟨_, fun _ _ => Iff.rfl⟩
  refine wC_loopI I xs.length ((hI _ _).2 ⟨0, by omega, rfl, rfl⟩) (St.le_of (by simp) (by simp [part_zero, at_zero]) rfl rfl) ?_
  intro m s hs
  obtain ⟨i, hi, rfl, rfl⟩ := (hI _ _).1 hs
  rcases Nat.lt_or_ge i xs.length with hlt | hge
  · obtain ⟨x, hx⟩ : ∃ x, xs[i]? = some x := ⟨_, List.getElem?_eq_getElem hlt⟩
    have hr := tFragS_get hx
    have hpl : (pre (tFragS xs) k i).length = i * 4 := pre_len (w := 4) tFragS_rows (by simp; omega)
    obtain ⟨x0, x1, x2, x3⟩ := x
    simp only [tFrag, List.cons_append, List.nil_append] at hr
    rw [part_at hr]
    have hnext := part_next (k := k) hr
    have hsucc := at_succ (k := k) hr
    have hbnd := at_bnd (k := k) hr
    generalize hat : at_ (tFragS xs) k i = n at *
    simp only [encL, encT, cnL, cnT, mkL, mkT, mkR_len, Md.ow_ex, Nat.add_zero, List.cons_append, List.nil_append, tDirS_len, tSelS_len] at hnext hsucc hbnd ⊢
    simp -implicitDefEqProofs [hlt, -putCells, Nat.add_assoc, put_app hpl, put_app0 hpl, len_app hpl, td_app hpl, td_app0 hpl, get_app hpl, get_app0 hpl, getE_app hpl, getE_app0 hpl, set_app hpl, set_app0 hpl]
    intro hm
    unfold maxLen at hm
    try simp (disch := omega) only [wrap64, Int.tmod_eq_emod_of_nonneg]
    repeat refine And.intro (by omega) ?_
    refine callK_of (c_markText _ _ ?_ ?_) ?_
    · omega
    · omega
    simp -implicitDefEqProofs [hlt, -putCells, Nat.add_assoc, put_app hpl, put_app0 hpl, len_app hpl, td_app hpl, td_app0 hpl, get_app hpl, get_app0 hpl, getE_app hpl, getE_app0 hpl, set_app hpl, set_app0 hpl]
    try simp (disch := omega) only [wrap64, Int.tmod_eq_emod_of_nonneg]
    repeat refine And.intro (by omega) ?_
    refine callK_of (c_markText _ _ ?_ ?_) ?_
    · omega
    · omega
    simp -implicitDefEqProofs [hlt, -putCells, Nat.add_assoc, put_app hpl, put_app0 hpl, len_app hpl, td_app hpl, td_app0 hpl, get_app hpl, get_app0 hpl, getE_app hpl, getE_app0 hpl, set_app hpl, set_app0 hpl]
    try simp (disch := omega) only [wrap64, Int.tmod_eq_emod_of_nonneg]
    repeat refine And.intro (by omega) ?_
    intro z2
    refine endB_of (c_markDirS x2 _ _ ?_ ?_) (by simp) ?_
    · omega
    · omega
    simp -implicitDefEqProofs [hlt, -putCells, Nat.add_assoc, put_app hpl, put_app0 hpl, len_app hpl, td_app hpl, td_app0 hpl, get_app hpl, get_app0 hpl, getE_app hpl, getE_app0 hpl, set_app hpl, set_app0 hpl]
    try simp (disch := omega) only [wrap64, Int.tmod_eq_emod_of_nonneg]
    repeat refine And.intro (by omega) ?_
    intro z3
    refine endB_of (c_markSelS x3 _ _ ?_ ?_) (by simp) ?_
    · omega
    · omega
    simp -implicitDefEqProofs [hlt, -putCells, Nat.add_assoc, put_app hpl, put_app0 hpl, len_app hpl, td_app hpl, td_app0 hpl, get_app hpl, get_app0 hpl, getE_app hpl, getE_app0 hpl, set_app hpl, set_app0 hpl]
    try simp (disch := omega) only [wrap64, Int.tmod_eq_emod_of_nonneg]
    repeat refine And.intro (by omega) ?_
    simp only [Int.cast_ofNat_Int] at hnext
    have hs2 : at_ (tFragS xs) k (i + 1) = n + 1 + 1 + (cnR (tDirS x2) : Nat) + (cnR (tSelS x3) : Nat) := by omega
    refine ⟨xs.length - (i + 1), by omega, _, St.le_of (by simp) (by simp [St.trunc, look, mapV, mapC, killP, hnext, hs2]) rfl (by simp [St.trunc, mapC]), (hI _ _).2 ⟨i + 1, by omega, rfl, rfl⟩⟩
  · have e : i = xs.length := by omega
    subst e
    have e1 : at_ (tFragS xs) k xs.length = k + cnR (tFragS xs) := by have := at_all (rows := tFragS xs) (k := k); rwa [tFragS_len] at this
    have e2 : part (tFragS xs) k xs.length = mkR (tFragS xs) k := by have := part_all (rows := tFragS xs) (k := k); rwa [tFragS_len] at this
    simp -implicitDefEqProofs [e1, e2]
end Go.Proofs.Ytkpdlbidadcdjaa.Abs
