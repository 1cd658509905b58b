/- PRINTED by marks.py: what the laws write, and look for. No condition. -/
import Derived.Test.YtkefgpmnimpcdaaGreatDoorMk
set_option linter.unusedVariables false
set_option linter.unusedSimpArgs false
namespace Go.Proofs.YtkefgpmnimpcdaaGreatDoor.Abs
open Go
set_option maxHeartbeats 2000000
set_option maxRecDepth 100000
theorem wd_Token : ∀ x : DToken, wdL (tToken x)
  | ⟨x0, x1, x2⟩ => by simp [tToken, wdL, wdT]
theorem wd_TokenS : ∀ xs : List DToken, wdR (tTokenS xs)
  | [] => by simp [tTokenS, wdR]
  | x :: xs => by simp only [tTokenS, wdR]; exact ⟨by rw [tToken_len]; omega, wd_Token x, wd_TokenS xs⟩
theorem cn_TokenS (xs : List DToken) : cnR (tTokenS xs) ≤ 40 * (xs.length + szR (tTokenS xs)) := by
  have := cnR_le _ (wd_TokenS xs); rwa [tTokenS_len] at this
theorem c_heldStringS (xs : List Bs) (k : Int) (K : List (List (List AC))) (h1 : 0 ≤ k) (h2 : k + cnR (tStrS xs) < 1000000000000000000) : Ct Tryz.prog 71 [.sl .no xs.length (encR .no (mkR (tStrS xs) k)), .int .i64 k] K (.int .i64 (k + cnR (tStrS xs))) K := by
  refine ct_fn { n0 := 6, ex := [], tk := [] } Tryz.func71 rfl (by kernel_rfl) (by kernel_rfl) rfl ?_
  simp -implicitDefEqProofs [Tryz.f71]
  obtain ⟨I, hI⟩ : ∃ I : Nat → St → Prop, ∀ m s, I m s ↔ ∃ i, i ≤ xs.length ∧ m = xs.length - i ∧
    s = { env := [(0, .sl .no xs.length (encR .no (mkR (tStrS xs) k))), (1, .int .i64 (at_ (tStrS xs) k i)), (4, .int .i64 0), (5, .int .i64 i)], loc := [], K := [] :: K } := ⟨_, fun _ _ => Iff.rfl⟩
  refine wC_loopI I xs.length ((hI _ _).2 ⟨0, by omega, rfl, rfl⟩) (St.le_of (by simp) (by simp [at_zero]) rfl rfl) ?_
  intro m s hs
  obtain ⟨i, hi, rfl, rfl⟩ := (hI _ _).1 hs
  rcases Nat.lt_or_ge i xs.length with hlt | hge
  · obtain ⟨x, hx⟩ : ∃ x, xs[i]? = some x := ⟨_, List.getElem?_eq_getElem hlt⟩
    have hr := tStrS_get hx
    have hel : (encR .no (mkR (tStrS xs) k)).length = xs.length * 1 := by rw [encMk_len (w := 1) tStrS_rows, tStrS_len]
    skip
    skip
    have ea := row_at (m := .no) (mkR_rows (k := k) tStrS_rows) (mkR_get (k := k) hr)
    have hsucc := at_succ (k := k) hr
    have hbnd := at_bnd (k := k) hr
    generalize hat : at_ (tStrS xs) k i = n at *
    simp only [encL, encT, cnL, cnT, mkL, mkT, mkR_len, Md.ow_no, Nat.mul_one, Nat.add_zero, List.cons_append, List.nil_append] at ea hsucc hbnd hel ⊢
    simp -implicitDefEqProofs [hlt, ea, hel]
    intro hm
    unfold maxLen at hm
    try simp (disch := omega) only [wrap64, Int.tmod_eq_emod_of_nonneg]
    refine wRun_draw true rfl (by decide +kernel) ?_
    simp -implicitDefEqProofs [hlt, ea, hel]
    try simp (disch := omega) only [wrap64, Int.tmod_eq_emod_of_nonneg]
    refine callK_of (c_markText _ _ ?_ ?_) ?_
    · omega
    · omega
    simp -implicitDefEqProofs [hlt, ea, hel]
    try simp (disch := omega) only [wrap64, Int.tmod_eq_emod_of_nonneg]
    try simp only [not_true_eq_false, false_implies, true_implies, true_and]
    try simp -implicitDefEqProofs [hlt, ea, hel]
    have hs2 : at_ (tStrS xs) k (i + 1) = n + 1 := by omega
    refine ⟨xs.length - (i + 1), by omega, _, St.le_of (by simp) (by simp [St.trunc, look, mapV, mapC, killP, hs2]) rfl (by simp [St.trunc, mapC]), (hI _ _).2 ⟨i + 1, by omega, rfl, rfl⟩⟩
  · have e : i = xs.length := by omega
    subst e
    have e1 : at_ (tStrS xs) k xs.length = k + cnR (tStrS xs) := by have := at_all (rows := tStrS xs) (k := k); rwa [tStrS_len] at this
    simp -implicitDefEqProofs [e1]
theorem c_markTokenS (xs : List DToken) (k : Int) (K : List (List (List AC))) (h1 : 0 ≤ k) (h2 : k + cnR (tTokenS xs) < 1000000000000000000) : CtB Tryz.prog 14 [.sl (.ex 104) xs.length (encR .ex (tTokenS xs)), .int .i64 k] K (.int .i64 (k + cnR (tTokenS xs))) K (.sl (.ex 104) xs.length (encR .ex (mkR (tTokenS xs) k))) := by
  refine ct_fnB { n0 := 6, ex := [], tk := [], es := true, bw := [] } Tryz.func14 rfl (by kernel_rfl) (by kernel_rfl) rfl (fun y => ?_)
  simp -implicitDefEqProofs [Tryz.f14]
  obtain ⟨I, hI⟩ : ∃ I : Nat → St → Prop, ∀ m s, I m s ↔ ∃ i, i ≤ xs.length ∧ m = xs.length - i ∧
    s = { env := [(0, .nam y (.sl (.ex 104) xs.length (encR .ex (part (tTokenS xs) k i)))), (1, .int .i64 (at_ (tTokenS xs) k i)), (4, .int .i64 0), (5, .int .i64 i)], loc := [], K := [] :: K } := ⟨_, fun _ _ => Iff.rfl⟩
  refine wC_loopI I xs.length ((hI _ _).2 ⟨0, by omega, rfl, rfl⟩) (St.le_of (by simp) (by simp [part_zero, at_zero]) rfl rfl) ?_
  intro m s hs
  obtain ⟨i, hi, rfl, rfl⟩ := (hI _ _).1 hs
  rcases Nat.lt_or_ge i xs.length with hlt | hge
  · obtain ⟨x, hx⟩ : ∃ x, xs[i]? = some x := ⟨_, List.getElem?_eq_getElem hlt⟩
    have hr := tTokenS_get hx
    have hpl : (pre (tTokenS xs) k i).length = i * 3 := pre_len (w := 3) tTokenS_rows (by simp; omega)
    obtain ⟨x0, x1, x2⟩ := x
    simp only [tToken, List.cons_append, List.nil_append] at hr
    rw [part_at hr]
    have hnext := part_next (k := k) hr
    have hsucc := at_succ (k := k) hr
    have hbnd := at_bnd (k := k) hr
    generalize hat : at_ (tTokenS xs) k i = n at *
    simp only [encL, encT, cnL, cnT, mkL, mkT, mkR_len, Md.ow_ex, Nat.add_zero, List.cons_append, List.nil_append] at hnext hsucc hbnd ⊢
    simp -implicitDefEqProofs [hlt, -putCells, Nat.add_assoc, put_app hpl, put_app0 hpl, len_app hpl, td_app hpl, td_app0 hpl, get_app hpl, get_app0 hpl, getE_app hpl, getE_app0 hpl, set_app hpl, set_app0 hpl]
    intro hm
    unfold maxLen at hm
    try simp (disch := omega) only [wrap64, Int.tmod_eq_emod_of_nonneg]
    repeat refine And.intro (by omega) ?_
    refine callK_of (c_markText _ _ ?_ ?_) ?_
    · omega
    · omega
    simp -implicitDefEqProofs [hlt, -putCells, Nat.add_assoc, put_app hpl, put_app0 hpl, len_app hpl, td_app hpl, td_app0 hpl, get_app hpl, get_app0 hpl, getE_app hpl, getE_app0 hpl, set_app hpl, set_app0 hpl]
    try simp (disch := omega) only [wrap64, Int.tmod_eq_emod_of_nonneg]
    repeat refine And.intro (by omega) ?_
    simp only [Int.cast_ofNat_Int] at hnext
    have hs2 : at_ (tTokenS xs) k (i + 1) = n + 1 + 1 + 1 := by omega
    refine ⟨xs.length - (i + 1), by omega, _, St.le_of (by simp) (by simp [St.trunc, look, mapV, mapC, killP, hnext, hs2]) rfl (by simp [St.trunc, mapC]), (hI _ _).2 ⟨i + 1, by omega, rfl, rfl⟩⟩
  · have e : i = xs.length := by omega
    subst e
    have e1 : at_ (tTokenS xs) k xs.length = k + cnR (tTokenS xs) := by have := at_all (rows := tTokenS xs) (k := k); rwa [tTokenS_len] at this
    have e2 : part (tTokenS xs) k xs.length = mkR (tTokenS xs) k := by have := part_all (rows := tTokenS xs) (k := k); rwa [tTokenS_len] at this
    simp -implicitDefEqProofs [e1, e2]
theorem c_heldTokenS (xs : List DToken) (k : Int) (K : List (List (List AC))) (h1 : 0 ≤ k) (h2 : k + cnR (tTokenS xs) < 1000000000000000000) : Ct Tryz.prog 15 [.sl .no xs.length (encR .no (mkR (tTokenS xs) k)), .int .i64 k] K (.int .i64 (k + cnR (tTokenS xs))) K := by
  refine ct_fn { n0 := 6, ex := [], tk := [] } Tryz.func15 rfl (by kernel_rfl) (by kernel_rfl) rfl ?_
  simp -implicitDefEqProofs [Tryz.f15]
  obtain ⟨I, hI⟩ : ∃ I : Nat → St → Prop, ∀ m s, I m s ↔ ∃ i, i ≤ xs.length ∧ m = xs.length - i ∧
    s = { env := [(0, .sl .no xs.length (encR .no (mkR (tTokenS xs) k))), (1, .int .i64 (at_ (tTokenS xs) k i)), (4, .int .i64 0), (5, .int .i64 i)], loc := [], K := [] :: K } := ⟨_, fun _ _ => Iff.rfl⟩
  refine wC_loopI I xs.length ((hI _ _).2 ⟨0, by omega, rfl, rfl⟩) (St.le_of (by simp) (by simp [at_zero]) rfl rfl) ?_
  intro m s hs
  obtain ⟨i, hi, rfl, rfl⟩ := (hI _ _).1 hs
  rcases Nat.lt_or_ge i xs.length with hlt | hge
  · obtain ⟨x, hx⟩ : ∃ x, xs[i]? = some x := ⟨_, List.getElem?_eq_getElem hlt⟩
    have hr := tTokenS_get hx
    have hel : (encR .no (mkR (tTokenS xs) k)).length = xs.length * 3 := by rw [encMk_len (w := 3) tTokenS_rows, tTokenS_len]
    obtain ⟨x0, x1, x2⟩ := x
    simp only [tToken, List.cons_append, List.nil_append] at hr
    have ea := row_at (m := .no) (mkR_rows (k := k) tTokenS_rows) (mkR_get (k := k) hr)
    have hsucc := at_succ (k := k) hr
    have hbnd := at_bnd (k := k) hr
    generalize hat : at_ (tTokenS xs) k i = n at *
    simp only [encL, encT, cnL, cnT, mkL, mkT, mkR_len, Md.ow_no, Nat.mul_one, Nat.add_zero, List.cons_append, List.nil_append] at ea hsucc hbnd hel ⊢
    simp -implicitDefEqProofs [hlt, ea, hel]
    intro hm
    unfold maxLen at hm
    try simp (disch := omega) only [wrap64, Int.tmod_eq_emod_of_nonneg]
    refine wRun_draw true rfl (by decide +kernel) ?_
    simp -implicitDefEqProofs [hlt, ea, hel]
    try simp (disch := omega) only [wrap64, Int.tmod_eq_emod_of_nonneg]
    refine callK_of (c_markText _ _ ?_ ?_) ?_
    · omega
    · omega
    simp -implicitDefEqProofs [hlt, ea, hel]
    try simp (disch := omega) only [wrap64, Int.tmod_eq_emod_of_nonneg]
    try simp only [not_true_eq_false, false_implies, true_implies, true_and]
    try simp -implicitDefEqProofs [hlt, ea, hel]
    have hs2 : at_ (tTokenS xs) k (i + 1) = n + 1 + 1 + 1 := by omega
    refine ⟨xs.length - (i + 1), by omega, _, St.le_of (by simp) (by simp [St.trunc, look, mapV, mapC, killP, hs2]) rfl (by simp [St.trunc, mapC]), (hI _ _).2 ⟨i + 1, by omega, rfl, rfl⟩⟩
  · have e : i = xs.length := by omega
    subst e
    have e1 : at_ (tTokenS xs) k xs.length = k + cnR (tTokenS xs) := by have := at_all (rows := tTokenS xs) (k := k); rwa [tTokenS_len] at this
    simp -implicitDefEqProofs [e1]
end Go.Proofs.YtkefgpmnimpcdaaGreatDoor.Abs
