/- PRINTED by marks.py: what the laws write, and look for. No condition. -/
import Derived.Test.YthagllbnkbahnaaDoorMk
set_option linter.unusedVariables false
set_option linter.unusedSimpArgs false
namespace Go.Proofs.YthagllbnkbahnaaDoor.Abs
open Go
set_option maxHeartbeats 2000000
set_option maxRecDepth 100000
mutual
theorem wd_Json : ∀ x : DJson, wdL (tJson x)
  | ⟨x0, x1, x2, x3⟩ => by simp [tJson, wdL, wdT, wd_JsonS x2, wd_StrS x3]
theorem wd_JsonS : ∀ xs : List DJson, wdR (tJsonS xs)
  | [] => by simp [tJsonS, wdR]
  | x :: xs => by simp only [tJsonS, wdR]; exact ⟨by rw [tJson_len]; omega, wd_Json x, wd_JsonS xs⟩
end
theorem cn_JsonS (xs : List DJson) : cnR (tJsonS xs) ≤ 40 * (xs.length + szR (tJsonS xs)) := by
  have := cnR_le _ (wd_JsonS xs); rwa [tJsonS_len] at this
theorem c_heldStringS (xs : List Bs) (k : Int) (K : List (List (List AC))) (h1 : 0 ≤ k) (h2 : k + cnR (tStrS xs) < 1000000000000000000) : Ct Tryd.prog 19 [.sl .no xs.length (encR .no (mkR (tStrS xs) k)), .int .i64 k] K (.int .i64 (k + cnR (tStrS xs))) K := by
  refine ct_fn { n0 := 6, ex := [], tk := [] } Tryd.func19 rfl (by kernel_rfl) (by kernel_rfl) rfl ?_
  simp -implicitDefEqProofs [Tryd.f19]
  obtain ⟨I, hI⟩ : ∃ I : Nat → St → Prop, ∀ m s, I m s ↔ ∃ i, i ≤ xs.length ∧ m = xs.length - i ∧
    s = { env := [(0, .sl .no xs.length (encR .no (mkR (tStrS xs) k))), (1, .int .i64 (at_ (tStrS xs) k i)), (4, .int .i64 0), (5, .int .i64 i)], loc := [], K := [] :: K } := ⟨_, fun _ _ => Iff.rfl⟩
  refine wC_loopI I xs.length ((hI _ _).2 ⟨0, by omega, rfl, rfl⟩) (St.le_of (by simp) (by simp [at_zero]) rfl rfl) ?_
  intro m s hs
  obtain ⟨i, hi, rfl, rfl⟩ := (hI _ _).1 hs
  rcases Nat.lt_or_ge i xs.length with hlt | hge
  · obtain ⟨x, hx⟩ : ∃ x, xs[i]? = some x := ⟨_, List.getElem?_eq_getElem hlt⟩
    have hr := tStrS_get hx
    have hel : (encR .no (mkR (tStrS xs) k)).length = xs.length * 1 := by rw [encMk_len (w := 1) tStrS_rows, tStrS_len]
    skip
    skip
    have ea := row_at (m := .no) (mkR_rows (k := k) tStrS_rows) (mkR_get (k := k) hr)
    have hsucc := at_succ (k := k) hr
    have hbnd := at_bnd (k := k) hr
    generalize hat : at_ (tStrS xs) k i = n at *
    simp only [encL, encT, cnL, cnT, mkL, mkT, mkR_len, Md.ow_no, Nat.mul_one, Nat.add_zero, List.cons_append, List.nil_append] at ea hsucc hbnd hel ⊢
    simp -implicitDefEqProofs [hlt, ea, hel]
    intro hm
    unfold maxLen at hm
    try simp (disch := omega) only [wrap64, Int.tmod_eq_emod_of_nonneg]
    refine wRun_draw true rfl (by decide +kernel) ?_
    simp -implicitDefEqProofs [hlt, ea, hel]
    try simp (disch := omega) only [wrap64, Int.tmod_eq_emod_of_nonneg]
    refine callK_of (c_markText _ _ ?_ ?_) ?_
    · omega
    · omega
    simp -implicitDefEqProofs [hlt, ea, hel]
    try simp (disch := omega) only [wrap64, Int.tmod_eq_emod_of_nonneg]
    try simp only [not_true_eq_false, false_implies, true_implies, true_and]
    try simp -implicitDefEqProofs [hlt, ea, hel]
    have hs2 : at_ (tStrS xs) k (i + 1) = n + 1 := by omega
    refine ⟨xs.length - (i + 1), by omega, _, St.le_of (by simp) (by simp [St.trunc, look, mapV, mapC, killP, hs2]) rfl (by simp [St.trunc, mapC]), (hI _ _).2 ⟨i + 1, by omega, rfl, rfl⟩⟩
  · have e : i = xs.length := by omega
    subst e
    have e1 : at_ (tStrS xs) k xs.length = k + cnR (tStrS xs) := by have := at_all (rows := tStrS xs) (k := k); rwa [tStrS_len] at this
    simp -implicitDefEqProofs [e1]
theorem c_markJsonS_rec : ∀ N : Nat, ∀ (xs : List DJson) (k : Int) (K : List (List (List AC))) (h1 : 0 ≤ k) (h2 : k + cnR (tJsonS xs) < 1000000000000000000) (hN : SizeOf.sizeOf xs < N), CtB Tryd.prog 16 [.sl (.ex 25) xs.length (encR .ex (tJsonS xs)), .int .i64 k] K (.int .i64 (k + cnR (tJsonS xs))) K (.sl (.ex 25) xs.length (encR .ex (mkR (tJsonS xs) k))) := by
  intro N
  induction N with
  | zero => intros; omega
  | succ N ih =>
  intro xs k K h1 h2 hN
  refine ct_fnB { n0 := 6, ex := [], tk := [], es := true, bw := [16, 17] } Tryd.func16 rfl (by kernel_rfl) (by kernel_rfl) rfl (fun y => ?_)
  simp -implicitDefEqProofs [Tryd.f16]
  obtain ⟨I, hI⟩ : ∃ I : Nat → St → Prop, ∀ m s, I m s ↔ ∃ i, i ≤ xs.length ∧ m = xs.length - i ∧
    s = { env := [(0, .nam y (.sl (.ex 25) xs.length (encR .ex (part (tJsonS xs) k i)))), (1, .int .i64 (at_ (tJsonS xs) k i)), (4, .int .i64 0), (5, .int .i64 i)], loc := [], K := [] :: K } := ⟨_, fun _ _ => Iff.rfl⟩
  refine wC_loopI I xs.length ((hI _ _).2 ⟨0, by omega, rfl, rfl⟩) (St.le_of (by simp) (by simp [part_zero, at_zero]) rfl rfl) ?_
  intro m s hs
  obtain ⟨i, hi, rfl, rfl⟩ := (hI _ _).1 hs
  rcases Nat.lt_or_ge i xs.length with hlt | hge
  · obtain ⟨x, hx⟩ : ∃ x, xs[i]? = some x := ⟨_, List.getElem?_eq_getElem hlt⟩
    have hr := tJsonS_get hx
    have hpl : (pre (tJsonS xs) k i).length = i * 4 := pre_len (w := 4) tJsonS_rows (by simp; omega)
    obtain ⟨x0, x1, x2, x3⟩ := x
    simp only [tJson, List.cons_append, List.nil_append] at hr
    rw [part_at hr]
    have hnext := part_next (k := k) hr
    have hsucc := at_succ (k := k) hr
    have hbnd := at_bnd (k := k) hr
    generalize hat : at_ (tJsonS xs) k i = n at *
    simp only [encL, encT, cnL, cnT, mkL, mkT, mkR_len, Md.ow_ex, Nat.add_zero, List.cons_append, List.nil_append, tJsonS_len, tStrS_len] at hnext hsucc hbnd ⊢
    simp -implicitDefEqProofs [hlt, -putCells, Nat.add_assoc, put_app hpl, put_app0 hpl, len_app hpl, td_app hpl, td_app0 hpl, get_app hpl, get_app0 hpl, getE_app hpl, getE_app0 hpl, set_app hpl, set_app0 hpl]
    intro hm
    unfold maxLen at hm
    try simp (disch := omega) only [wrap64, Int.tmod_eq_emod_of_nonneg]
    repeat refine And.intro (by omega) ?_
    refine callK_of (c_markText _ _ ?_ ?_) ?_
    · omega
    · omega
    simp -implicitDefEqProofs [hlt, -putCells, Nat.add_assoc, put_app hpl, put_app0 hpl, len_app hpl, td_app hpl, td_app0 hpl, get_app hpl, get_app0 hpl, getE_app hpl, getE_app0 hpl, set_app hpl, set_app0 hpl]
    try simp (disch := omega) only [wrap64, Int.tmod_eq_emod_of_nonneg]
    repeat refine And.intro (by omega) ?_
    intro z2
    refine endB_of (ih x2 _ _ ?_ ?_ (by have h5 := List.sizeOf_lt_of_mem (List.mem_of_getElem? hx); simp at h5; omega)) (by simp) ?_
    · omega
    · omega
    simp -implicitDefEqProofs [hlt, -putCells, Nat.add_assoc, put_app hpl, put_app0 hpl, len_app hpl, td_app hpl, td_app0 hpl, get_app hpl, get_app0 hpl, getE_app hpl, getE_app0 hpl, set_app hpl, set_app0 hpl]
    try simp (disch := omega) only [wrap64, Int.tmod_eq_emod_of_nonneg]
    repeat refine And.intro (by omega) ?_
    intro z3
    refine endB_of (c_markStringS x3 _ _ ?_ ?_) (by simp) ?_
    · omega
    · omega
    simp -implicitDefEqProofs [hlt, -putCells, Nat.add_assoc, put_app hpl, put_app0 hpl, len_app hpl, td_app hpl, td_app0 hpl, get_app hpl, get_app0 hpl, getE_app hpl, getE_app0 hpl, set_app hpl, set_app0 hpl]
    try simp (disch := omega) only [wrap64, Int.tmod_eq_emod_of_nonneg]
    repeat refine And.intro (by omega) ?_
    simp only [Int.cast_ofNat_Int] at hnext
    have hs2 : at_ (tJsonS xs) k (i + 1) = n + 1 + 1 + (cnR (tJsonS x2) : Nat) + (cnR (tStrS x3) : Nat) := by omega
    refine ⟨xs.length - (i + 1), by omega, _, St.le_of (by simp) (by simp [St.trunc, look, mapV, mapC, killP, hnext, hs2]) rfl (by simp [St.trunc, mapC]), (hI _ _).2 ⟨i + 1, by omega, rfl, rfl⟩⟩
  · have e : i = xs.length := by omega
    subst e
    have e1 : at_ (tJsonS xs) k xs.length = k + cnR (tJsonS xs) := by have := at_all (rows := tJsonS xs) (k := k); rwa [tJsonS_len] at this
    have e2 : part (tJsonS xs) k xs.length = mkR (tJsonS xs) k := by have := part_all (rows := tJsonS xs) (k := k); rwa [tJsonS_len] at this
    simp -implicitDefEqProofs [e1, e2]
theorem c_markJsonS (xs : List DJson) (k : Int) (K : List (List (List AC))) (h1 : 0 ≤ k) (h2 : k + cnR (tJsonS xs) < 1000000000000000000) : CtB Tryd.prog 16 [.sl (.ex 25) xs.length (encR .ex (tJsonS xs)), .int .i64 k] K (.int .i64 (k + cnR (tJsonS xs))) K (.sl (.ex 25) xs.length (encR .ex (mkR (tJsonS xs) k))) := c_markJsonS_rec _ xs k K h1 h2 (Nat.lt_succ_self _)
theorem c_heldJsonS_rec : ∀ N : Nat, ∀ (xs : List DJson) (k : Int) (K : List (List (List AC))) (h1 : 0 ≤ k) (h2 : k + cnR (tJsonS xs) < 1000000000000000000) (hN : SizeOf.sizeOf xs < N), Ct Tryd.prog 18 [.sl .no xs.length (encR .no (mkR (tJsonS xs) k)), .int .i64 k] K (.int .i64 (k + cnR (tJsonS xs))) K := by
  intro N
  induction N with
  | zero => intros; omega
  | succ N ih =>
  intro xs k K h1 h2 hN
  refine ct_fn { n0 := 6, ex := [], tk := [] } Tryd.func18 rfl (by kernel_rfl) (by kernel_rfl) rfl ?_
  simp -implicitDefEqProofs [Tryd.f18]
  obtain ⟨I, hI⟩ : ∃ I : Nat → St → Prop, ∀ m s, I m s ↔ ∃ i, i ≤ xs.length ∧ m = xs.length - i ∧
    s = { env := [(0, .sl .no xs.length (encR .no (mkR (tJsonS xs) k))), (1, .int .i64 (at_ (tJsonS xs) k i)), (4, .int .i64 0), (5, .int .i64 i)], loc := [], K := [] :: K } := ⟨_, fun _ _ => Iff.rfl⟩
  refine wC_loopI I xs.length ((hI _ _).2 ⟨0, by omega, rfl, rfl⟩) (St.le_of (by simp) (by simp [at_zero]) rfl rfl) ?_
  intro m s hs
  obtain ⟨i, hi, rfl, rfl⟩ := (hI _ _).1 hs
  rcases Nat.lt_or_ge i xs.length with hlt | hge
  · obtain ⟨x, hx⟩ : ∃ x, xs[i]? = some x := ⟨_, List.getElem?_eq_getElem hlt⟩
    have hr := tJsonS_get hx
    have hel : (encR .no (mkR (tJsonS xs) k)).length = xs.length * 4 := by rw [encMk_len (w := 4) tJsonS_rows, tJsonS_len]
    obtain ⟨x0, x1, x2, x3⟩ := x
    simp only [tJson, List.cons_append, List.nil_append] at hr
    have ea := row_at (m := .no) (mkR_rows (k := k) tJsonS_rows) (mkR_get (k := k) hr)
    have hsucc := at_succ (k := k) hr
    have hbnd := at_bnd (k := k) hr
    generalize hat : at_ (tJsonS xs) k i = n at *
    simp only [encL, encT, cnL, cnT, mkL, mkT, mkR_len, Md.ow_no, Nat.mul_one, Nat.add_zero, List.cons_append, List.nil_append, tJsonS_len, tStrS_len] at ea hsucc hbnd hel ⊢
    simp -implicitDefEqProofs [hlt, ea, hel]
    intro hm
    unfold maxLen at hm
    try simp (disch := omega) only [wrap64, Int.tmod_eq_emod_of_nonneg]
    refine wRun_draw true rfl (by decide +kernel) ?_
    simp -implicitDefEqProofs [hlt, ea, hel]
    try simp (disch := omega) only [wrap64, Int.tmod_eq_emod_of_nonneg]
    refine callK_of (c_markText _ _ ?_ ?_) ?_
    · omega
    · omega
    simp -implicitDefEqProofs [hlt, ea, hel]
    try simp (disch := omega) only [wrap64, Int.tmod_eq_emod_of_nonneg]
    try simp only [not_true_eq_false, false_implies, true_implies, true_and]
    have hc2 := ih x2
    refine callK_of (ih x2 _ _ ?_ ?_ (by have h5 := List.sizeOf_lt_of_mem (List.mem_of_getElem? hx); simp at h5; omega)) ?_
    · omega
    · omega
    simp -implicitDefEqProofs [hlt, ea, hel]
    try simp (disch := omega) only [wrap64, Int.tmod_eq_emod_of_nonneg]
    refine ⟨fun h => by omega, fun _ => ?_⟩
    try simp (disch := omega) only [wrap64, Int.tmod_eq_emod_of_nonneg]
    have hc3 := c_heldStringS x3
    refine callK_of (c_heldStringS x3 _ _ ?_ ?_) ?_
    · omega
    · omega
    simp -implicitDefEqProofs [hlt, ea, hel]
    try simp (disch := omega) only [wrap64, Int.tmod_eq_emod_of_nonneg]
    refine ⟨fun h => by omega, fun _ => ?_⟩
    try simp (disch := omega) only [wrap64, Int.tmod_eq_emod_of_nonneg]
    try simp -implicitDefEqProofs [hlt, ea, hel]
    have hs2 : at_ (tJsonS xs) k (i + 1) = n + 1 + 1 + (cnR (tJsonS x2) : Nat) + (cnR (tStrS x3) : Nat) := by omega
    refine ⟨xs.length - (i + 1), by omega, _, St.le_of (by simp) (by simp [St.trunc, look, mapV, mapC, killP, hs2]) rfl (by simp [St.trunc, mapC]), (hI _ _).2 ⟨i + 1, by omega, rfl, rfl⟩⟩
  · have e : i = xs.length := by omega
    subst e
    have e1 : at_ (tJsonS xs) k xs.length = k + cnR (tJsonS xs) := by have := at_all (rows := tJsonS xs) (k := k); rwa [tJsonS_len] at this
    simp -implicitDefEqProofs [e1]
theorem c_heldJsonS (xs : List DJson) (k : Int) (K : List (List (List AC))) (h1 : 0 ≤ k) (h2 : k + cnR (tJsonS xs) < 1000000000000000000) : Ct Tryd.prog 18 [.sl .no xs.length (encR .no (mkR (tJsonS xs) k)), .int .i64 k] K (.int .i64 (k + cnR (tJsonS xs))) K := c_heldJsonS_rec _ xs k K h1 h2 (Nat.lt_succ_self _)
end Go.Proofs.YthagllbnkbahnaaDoor.Abs
