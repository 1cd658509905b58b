/- PRINTED by fam.py: what the laws do with data. No condition. -/
import Derived.Test.YtcgkcbmhjbbjmaaFStr
set_option linter.unusedVariables false
set_option linter.unusedSimpArgs false
namespace Go.Proofs.Ytcgkcbmhjbbjmaa.Abs
open Go
set_option maxHeartbeats 2000000
set_option maxRecDepth 100000
theorem c_szValue_rec : ∀ N : Nat, (∀ (a : DValue) (l : Int) (K : List (List (List AC))) (h1 : 0 ≤ l) (h2 : l ≤ 1048576) (hN : SizeOf.sizeOf a < N), ∃ r, Ct Try.prog 95 [.agg (encL .no (tValue a)), .int .i64 l] K (.int .i64 r) K ∧ SZ l (szL (tValue a)) r) ∧ (∀ (xs : List DValue) (l : Int) (K : List (List (List AC))) (h1 : 0 ≤ l) (h2 : l ≤ 1048576) (hN : SizeOf.sizeOf xs < N), ∃ r, Ct Try.prog 134 [.sl .no xs.length (encR .no (tValueS xs)), .int .i64 l] K (.int .i64 r) K ∧ SZ l (xs.length + szR (tValueS xs)) r) := by
  intro N
  induction N with
  | zero => exact ⟨fun a => by intros; omega, fun xs => by intros; omega⟩
  | succ N ih =>
  refine ⟨?_, ?_⟩
  · intro a l K h1 h2 hN
    obtain ⟨x0, x1, x2, x3⟩ := a
    have es : szL (tValue ⟨x0, x1, x2, x3⟩) = x1.length + (x2.length + szR (tValueS x2)) + (x3.length + szR (tStrS x3)) := by simp [tValue, encL_app, encL, encT, szL, szT]; try omega
    refine ⟨_, ?_, subz_SZ _ _⟩
    rw [es]
    refine ct_fn { n0 := 5, ex := [], tk := [] } Try.func95 rfl (by kernel_rfl) (by kernel_rfl) rfl ?_
    simp -implicitDefEqProofs [Try.f95, tValue, encL_app, encL, encT, szL, szT]
    intro hn1
    unfold maxLen at hn1
    simp (disch := omega) only [wrap64]
    refine ⟨fun h => by unfold subz; rw [if_pos (by omega)], fun h1 => ?_⟩
    obtain ⟨r2, hc, hr2⟩ := ih.2 x2 (l - x1.length) _ (by omega) (by omega) (by simp at hN; omega)
    refine callK_of hc ?_
    simp -implicitDefEqProofs
    unfold SZ at hr2
    refine ⟨fun h => by unfold subz; rw [if_pos (by omega)], fun h2 => ?_⟩
    obtain ⟨r3, hc, hr3⟩ := c_szStringS x3 r2 _ (by omega) (by omega)
    refine callK_of hc ?_
    simp -implicitDefEqProofs
    unfold SZ at hr3
    refine ⟨fun h => by unfold subz; rw [if_pos (by omega)], fun h3 => ?_⟩
    unfold subz; rw [if_neg (by omega)]; try omega
  · intro xs l K h1 h2 hN
    refine ⟨_, ?_, subz_SZ _ _⟩
    refine ct_fn { n0 := 6, ex := [], tk := [] } Try.func134 rfl (by kernel_rfl) (by kernel_rfl) rfl ?_
    simp -implicitDefEqProofs [Try.f134]
    intro hn
    unfold maxLen at hn
    simp (disch := omega) only [wrap64]
    refine ⟨fun h => by unfold subz; rw [if_pos (by omega)], fun h => ?_⟩
    refine wC_loop (fun m s => ∃ i, i ≤ xs.length ∧ m = xs.length - i ∧ ((szR ((tValueS xs).take i) : Nat) : Int) ≤ l - xs.length ∧
      s = { env := [(0, .sl .no xs.length (encR .no (tValueS xs))), (1, .int .i64 (l - xs.length - szR ((tValueS xs).take i))), (4, .int .i64 0), (5, .int .i64 i)], loc := [], K := [] :: K }) xs.length _
      (St.le_of (by simp) (by simp [szR]) rfl rfl) ⟨0, by omega, rfl, by simp [szR]; omega, by simp [szR]⟩ ?_
    rintro m _ ⟨i, hi, rfl, hz, rfl⟩
    rcases Nat.lt_or_ge i xs.length with hlt | hge
    · obtain ⟨x, hx⟩ : ∃ x, xs[i]? = some x := ⟨_, List.getElem?_eq_getElem hlt⟩
      have ea := atValue (m := .no) hx
      have es := szR_get (tValueS_get hx)
      have el := szR_take_le (rs := tValueS xs) (i + 1)
      obtain ⟨r, hc, hr⟩ := ih.1 x (l - xs.length - szR ((tValueS xs).take i)) ([] :: K) (by omega) (by omega) (by have := List.sizeOf_lt_of_mem (List.mem_of_getElem? hx); omega)
      unfold SZ at hr
      have hek := encL_len (m := .no) (r := tValue x)
      rw [tValue_len] at hek
      have htk : (encL .no (tValue x)).take 4 = encL .no (tValue x) := List.take_of_length_le (by omega)
      simp -implicitDefEqProofs [hlt, ea, hek, htk, encValueS_len]
      intro _
      refine callK_of hc ?_
      simp -implicitDefEqProofs
      unfold maxLen at *
      refine ⟨fun h3 => by unfold subz; rw [if_pos (by omega)], fun h3 => ?_⟩
      simp (disch := omega) only [wrap64]
      refine ⟨xs.length - (i + 1), by omega, _, St.le_of (by simp) ?_ rfl (by simp [St.trunc]), i + 1, by omega, rfl, by omega, rfl⟩
      have e3 : r = l - xs.length - (szR ((tValueS xs).take (i + 1)) : Nat) := by omega
      simp [St.trunc, look, mapV, mapC, e3]
    · have e : i = xs.length := by omega
      subst e
      simp -implicitDefEqProofs
      intro _
      have et : (tValueS xs).take xs.length = tValueS xs := List.take_of_length_le (by simp)
      rw [et] at hz ⊢
      unfold subz; rw [if_neg (by omega)]; try omega
theorem c_szValue (a : DValue) (l : Int) (K) (h1 : 0 ≤ l) (h2 : l ≤ 1048576) : ∃ r, Ct Try.prog 95 [.agg (encL .no (tValue a)), .int .i64 l] K (.int .i64 r) K ∧ SZ l (szL (tValue a)) r := (c_szValue_rec _).1 a l K h1 h2 (Nat.lt_succ_self _)
theorem c_szValueS (xs : List DValue) (l : Int) (K) (h1 : 0 ≤ l) (h2 : l ≤ 1048576) : ∃ r, Ct Try.prog 134 [.sl .no xs.length (encR .no (tValueS xs)), .int .i64 l] K (.int .i64 r) K ∧ SZ l (xs.length + szR (tValueS xs)) r := (c_szValue_rec _).2 xs l K h1 h2 (Nat.lt_succ_self _)
theorem c_toValue_rec : ∀ N : Nat, (∀ (a : DValue) (K : List (List (List AC))) (hs : szL (tValue a) ≤ 1048576) (hN : SizeOf.sizeOf a < N), Ct Try.prog 99 [.agg (encL .no (tValue a))] K (.agg (encL .ex (tValue a))) K) ∧ (∀ (xs : List DValue) (K : List (List (List AC))) (hs : xs.length + szR (tValueS xs) ≤ 1048576) (hN : SizeOf.sizeOf xs < N), Ct Try.prog 135 [.sl .no xs.length (encR .no (tValueS xs))] K (.sl (.ex 78) xs.length (encR .ex (tValueS xs))) K) := by
  intro N
  induction N with
  | zero => exact ⟨fun a => by intros; omega, fun xs => by intros; omega⟩
  | succ N ih =>
  refine ⟨?_, ?_⟩
  · intro a K hs hN
    obtain ⟨x0, x1, x2, x3⟩ := a
    have es : szL (tValue ⟨x0, x1, x2, x3⟩) = x1.length + (x2.length + szR (tValueS x2)) + (x3.length + szR (tStrS x3)) := by simp [tValue, encL_app, encL, encT, szL, szT]; try omega
    rw [es] at hs
    refine ct_fn { n0 := 4, ex := [], tk := [12, 16, 18] } Try.func99 rfl (by kernel_rfl) (by kernel_rfl) rfl ?_
    simp -implicitDefEqProofs [Try.f99, tValue, encL_app, encL, encT, szL, szT]
    refine callK_of (ih.2 x2 _ (by omega) (by simp at hN; omega)) ?_
    simp -implicitDefEqProofs
    refine callK_of (c_toStringS x3 _ (by omega)) ?_
    simp -implicitDefEqProofs
  · intro xs K hs hN
    refine ct_fn { n0 := 5, ex := [], tk := [7, 20, 22], kp := [7], es := true } Try.func135 rfl (by kernel_rfl) (by kernel_rfl) rfl ?_
    simp -implicitDefEqProofs [Try.f135]
    intro h1
    unfold maxLen at h1
    refine ⟨by unfold maxLen; omega, fun y => ?_⟩
    have e0 : (List.replicate xs.length ([.int .i64 0, .str [], .sl .nil 0 [], .sl .nil 0 []] : List AC)).flatten = filled .ex [.int .i64 0, .str [], .sl .nil 0 [], .sl .nil 0 []] (tValueS xs) 0 := by rw [filled_zero]; simp
    rw [e0]
    refine wC_for (fun i => { env := [(0, .sl .no xs.length (encR .no (tValueS xs))), (2, .sl .nil 0 []), (3, .nam y (.sl (.ex 78) xs.length (filled .ex [.int .i64 0, .str [], .sl .nil 0 [], .sl .nil 0 []] (tValueS xs) i))), (4, .int .i64 i)], loc := [], K := [] :: K }) xs.length (St.le_of (by simp) (by simp) rfl rfl) ?_
    intro i hi
    have efl := filled_len (m := .ex) (z := [.int .i64 0, .str [], .sl .nil 0 [], .sl .nil 0 []]) (i := i) (tValueS_rows (xs := xs)) rfl (by simpa using hi)
    rcases Nat.lt_or_ge i xs.length with hlt | hge
    · obtain ⟨x, hx⟩ : ∃ x, xs[i]? = some x := ⟨_, List.getElem?_eq_getElem hlt⟩
      have ea := atValue (m := .no) hx
      have ef := filled_next (m := .ex) (z := [.int .i64 0, .str [], .sl .nil 0 [], .sl .nil 0 []]) tValueS_rows rfl (tValueS_get hx)
      have es := szR_get (tValueS_get hx)
      have el := szR_take_le (rs := tValueS xs) (i + 1)
      have hc := fun K => ih.1 x K (by omega) (by have := List.sizeOf_lt_of_mem (List.mem_of_getElem? hx); omega)
      have hek := encL_len (m := .no) (r := tValue x)
      have hek2 := encL_len (m := .ex) (r := tValue x)
      have hfl := flat_enc (m := .ex) (r := tValue x)
      rw [tValue_len] at hek hek2
      unfold putCells at ef
      rw [hek2] at ef
      have htk : (encL .no (tValue x)).take 4 = encL .no (tValue x) := List.take_of_length_le (by omega)
      simp -implicitDefEqProofs [hlt, ea, hek, htk, encValueS_len]
      intro _
      refine callK_of (hc _) ?_
      have hfl2 : (encL .ex (tValue x)).all flat = true := List.all_eq_true.2 hfl
      rw [tValueS_len] at efl
      simp -implicitDefEqProofs [hek2, efl, ef, hfl2, hlt]
      refine ⟨by omega, ?_⟩
      unfold maxLen at *
      simp (disch := omega) only [wrap64]
      exact for_next hlt (St.le_of (by simp) (by simp [St.trunc, look, mapV, mapC]) rfl (by simp [St.trunc]))
    · have e : i = xs.length := by omega
      subst e
      have eq : filled .ex [.int .i64 0, .str [], .sl .nil 0 [], .sl .nil 0 []] (tValueS xs) xs.length = encR .ex (tValueS xs) := by rw [← filled_all (z := ([.int .i64 0, .str [], .sl .nil 0 [], .sl .nil 0 []] : List AC))]; simp
      simp -implicitDefEqProofs [eq]
theorem c_toValue (a : DValue) (K) (hs : szL (tValue a) ≤ 1048576) : Ct Try.prog 99 [.agg (encL .no (tValue a))] K (.agg (encL .ex (tValue a))) K := (c_toValue_rec _).1 a K hs (Nat.lt_succ_self _)
theorem c_toValueS (xs : List DValue) (K) (hs : xs.length + szR (tValueS xs) ≤ 1048576) : Ct Try.prog 135 [.sl .no xs.length (encR .no (tValueS xs))] K (.sl (.ex 78) xs.length (encR .ex (tValueS xs))) K := (c_toValue_rec _).2 xs K hs (Nat.lt_succ_self _)
theorem c_eqValue_rec : ∀ N : Nat, (∀ (a b : DValue) (K : List (List (List AC))) (hN : SizeOf.sizeOf a < N), Ct Try.prog 105 [.agg (encL .no (tValue a)), .agg (encL .no (tValue b))] K (.bool (eqB a b)) K) ∧ (∀ (xs ys : List DValue) (K : List (List (List AC))) (hN : SizeOf.sizeOf xs < N), Ct Try.prog 139 [.sl .no xs.length (encR .no (tValueS xs)), .sl .no ys.length (encR .no (tValueS ys))] K (.bool (eqB xs ys)) K) := by
  intro N
  induction N with
  | zero => exact ⟨fun a => by intros; omega, fun xs => by intros; omega⟩
  | succ N ih =>
  refine ⟨?_, ?_⟩
  · intro a b K hN
    obtain ⟨x0, x1, x2, x3⟩ := a
    obtain ⟨y0, y1, y2, y3⟩ := b
    refine ct_fn { n0 := 5, ex := [], tk := [] } Try.func105 rfl (by kernel_rfl) (by kernel_rfl) rfl ?_
    simp -implicitDefEqProofs [Try.f105, tValue, encL_app, encL, encT, szL, szT]
    refine ⟨fun h => eqB_ne fun e => h (by cases e; rfl), fun h0 => ?_⟩
    refine ⟨fun h => eqB_ne fun e => h (by cases e; rfl), fun h1 => ?_⟩
    refine callK_of (ih.2 x2 y2 _ (by simp at hN; omega)) ?_
    simp -implicitDefEqProofs
    refine ⟨fun h => eqB_ne fun e => (by cases e; rw [eqB_self] at h; cases h), fun h2 => ?_⟩
    rw [eqB_iff] at h2
    refine callK_of (c_eqStringS x3 y3 _) ?_
    simp -implicitDefEqProofs
    refine ⟨fun h => eqB_ne fun e => (by cases e; rw [eqB_self] at h; cases h), fun h3 => ?_⟩
    rw [eqB_iff] at h3
    rw [eqB_iff]
    try cases h0
    try cases h1
    try cases h2
    try cases h3
    rfl
  · intro xs ys K hN
    refine ct_fn { n0 := 6, ex := [], tk := [] } Try.func139 rfl (by kernel_rfl) (by kernel_rfl) rfl ?_
    simp -implicitDefEqProofs [Try.f139]
    intro h1 h2
    refine ⟨fun h => eqB_ne fun e => h (by rw [e]), fun hlen => ?_⟩
    refine wC_loop (fun m s => ∃ i, i ≤ xs.length ∧ m = xs.length - i ∧ xs.take i = ys.take i ∧
      s = { env := [(0, .sl .no xs.length (encR .no (tValueS xs))), (1, .sl .no ys.length (encR .no (tValueS ys))), (4, .bool false), (5, .int .i64 i)], loc := [], K := [] :: K }) xs.length _
      (St.le_of (by simp) (by simp) rfl rfl) ⟨0, by omega, rfl, by simp, rfl⟩ ?_
    rintro m _ ⟨i, hi, rfl, hz, rfl⟩
    rcases Nat.lt_or_ge i xs.length with hlt | hge
    · obtain ⟨x, hx⟩ : ∃ x, xs[i]? = some x := ⟨_, List.getElem?_eq_getElem hlt⟩
      obtain ⟨z, hz2⟩ : ∃ x, ys[i]? = some x := ⟨_, List.getElem?_eq_getElem (by omega)⟩
      have ea := atValue (m := .no) hx
      have eb := atValue (m := .no) hz2
      have hek := encL_len (m := .no) (r := tValue x)
      have hek2 := encL_len (m := .no) (r := tValue z)
      rw [tValue_len] at hek hek2
      have hc := fun K => ih.1 x z K (by have := List.sizeOf_lt_of_mem (List.mem_of_getElem? hx); omega)
      have htk : (encL .no (tValue x)).take 4 = encL .no (tValue x) := List.take_of_length_le (by omega)
      have htk2 : (encL .no (tValue z)).take 4 = encL .no (tValue z) := List.take_of_length_le (by omega)
      simp -implicitDefEqProofs [hlt, ea, eb, hek, hek2, htk, htk2, encValueS_len]
      intro _
      refine wRun_draw true rfl (by decide +kernel) ?_
      simp -implicitDefEqProofs [hlt, ea, eb, hek, hek2, htk, htk2, encValueS_len]
      refine ⟨by omega, ?_⟩
      refine callK_of (hc _) ?_
      simp -implicitDefEqProofs
      refine ⟨fun h3 => eqB_ne fun e => (by rw [e, hz2] at hx; cases hx; rw [eqB_self] at h3; cases h3), fun h3 => ?_⟩
      rw [eqB_iff] at h3
      subst h3
      unfold maxLen at *
      simp (disch := omega) only [wrap64]
      refine ⟨xs.length - (i + 1), by omega, _, St.le_of (by simp) ?_ rfl (by simp [St.trunc]), i + 1, by omega, rfl, ?_, rfl⟩
      · simp [St.trunc, look, mapV, mapC]
      · rw [List.take_add_one, List.take_add_one, hz, hx, hz2]
    · have e : i = xs.length := by omega
      subst e
      simp -implicitDefEqProofs
      intro _
      refine (eqB_iff.2 ?_)
      rw [List.take_of_length_le (by omega), List.take_of_length_le (by omega)] at hz
      exact hz
theorem c_eqValue (a b : DValue) (K) : Ct Try.prog 105 [.agg (encL .no (tValue a)), .agg (encL .no (tValue b))] K (.bool (eqB a b)) K := (c_eqValue_rec _).1 a b K (Nat.lt_succ_self _)
theorem c_eqValueS (xs ys : List DValue) (K) : Ct Try.prog 139 [.sl .no xs.length (encR .no (tValueS xs)), .sl .no ys.length (encR .no (tValueS ys))] K (.bool (eqB xs ys)) K := (c_eqValue_rec _).2 xs ys K (Nat.lt_succ_self _)
theorem c_szType (a : DType) (l : Int) (K) (h1 : 0 ≤ l) (h2 : l ≤ 1048576) : ∃ r, Ct Try.prog 57 [.agg (encL .no (tType a)), .int .i64 l] K (.int .i64 r) K ∧ SZ l (szL (tType a)) r := by
  obtain ⟨x0, x1⟩ := a
  have es : szL (tType ⟨x0, x1⟩) = x0.length + x1.length := by simp [tType, encL_app, encL, encT, szL, szT]; try omega
  refine ⟨_, ?_, subz_SZ _ _⟩
  rw [es]
  refine ct_fn { n0 := 5, ex := [], tk := [] } Try.func57 rfl (by kernel_rfl) (by kernel_rfl) rfl ?_
  simp -implicitDefEqProofs [Try.f57, tType, encL_app, encL, encT, szL, szT]
  intro hn0
  unfold maxLen at hn0
  simp (disch := omega) only [wrap64]
  refine ⟨fun h => by unfold subz; rw [if_pos (by omega)], fun h0 => ?_⟩
  intro hn1
  unfold maxLen at hn1
  simp (disch := omega) only [wrap64]
  refine ⟨fun h => by unfold subz; rw [if_pos (by omega)], fun h1 => ?_⟩
  unfold subz; rw [if_neg (by omega)]; try omega
theorem c_toType (a : DType) (K) (hs : szL (tType a) ≤ 1048576) : Ct Try.prog 60 [.agg (encL .no (tType a))] K (.agg (encL .ex (tType a))) K := by
  obtain ⟨x0, x1⟩ := a
  have es : szL (tType ⟨x0, x1⟩) = x0.length + x1.length := by simp [tType, encL_app, encL, encT, szL, szT]; try omega
  rw [es] at hs
  refine ct_fn { n0 := 4, ex := [], tk := [10] } Try.func60 rfl (by kernel_rfl) (by kernel_rfl) rfl ?_
  simp -implicitDefEqProofs [Try.f60, tType, encL_app, encL, encT, szL, szT]
theorem c_eqType (a b : DType) (K) : Ct Try.prog 104 [.agg (encL .no (tType a)), .agg (encL .no (tType b))] K (.bool (eqB a b)) K := by
  obtain ⟨x0, x1⟩ := a
  obtain ⟨y0, y1⟩ := b
  refine ct_fn { n0 := 5, ex := [], tk := [] } Try.func104 rfl (by kernel_rfl) (by kernel_rfl) rfl ?_
  simp -implicitDefEqProofs [Try.f104, tType, encL_app, encL, encT, szL, szT]
  refine ⟨fun h => eqB_ne fun e => h (by cases e; rfl), fun h0 => ?_⟩
  refine ⟨fun h => eqB_ne fun e => h (by cases e; rfl), fun h1 => ?_⟩
  rw [eqB_iff]
  try cases h0
  try cases h1
  rfl
theorem c_szArg (a : DArg) (l : Int) (K) (h1 : 0 ≤ l) (h2 : l ≤ 1048576) : ∃ r, Ct Try.prog 80 [.agg (encL .no (tArg a)), .int .i64 l] K (.int .i64 r) K ∧ SZ l (szL (tArg a)) r := by
  obtain ⟨x0, ⟨x1_0, x1_1, x1_2, x1_3⟩⟩ := a
  have es : szL (tArg ⟨x0, ⟨x1_0, x1_1, x1_2, x1_3⟩⟩) = x0.length + x1_1.length + (x1_2.length + szR (tValueS x1_2)) + (x1_3.length + szR (tStrS x1_3)) := by simp [tArg, tValue, encL_app, encL, encT, szL, szT]; try omega
  refine ⟨_, ?_, subz_SZ _ _⟩
  rw [es]
  refine ct_fn { n0 := 5, ex := [], tk := [] } Try.func80 rfl (by kernel_rfl) (by kernel_rfl) rfl ?_
  simp -implicitDefEqProofs [Try.f80, tArg, tValue, encL_app, encL, encT, szL, szT]
  intro hn0
  unfold maxLen at hn0
  simp (disch := omega) only [wrap64]
  refine ⟨fun h => by unfold subz; rw [if_pos (by omega)], fun h0 => ?_⟩
  have es1 : szL (tValue ⟨x1_0, x1_1, x1_2, x1_3⟩) = x1_1.length + (x1_2.length + szR (tValueS x1_2)) + (x1_3.length + szR (tStrS x1_3)) := by simp [tValue, encL_app, encL, encT, szL, szT]; try omega
  obtain ⟨r1, hc, hr1⟩ := c_szValue ⟨x1_0, x1_1, x1_2, x1_3⟩ (l - x0.length) _ (by omega) (by omega)
  simp only [tValue, encL_app, encL, encT, List.cons_append, List.nil_append, Md.ow_no, tStrS_len, tIntS_len, tValueS_len] at hc
  refine callK_of hc ?_
  simp -implicitDefEqProofs
  unfold SZ at hr1
  refine ⟨fun h => by unfold subz; rw [if_pos (by omega)], fun h1 => ?_⟩
  unfold subz; rw [if_neg (by omega)]; try omega
theorem c_szArgS (xs : List DArg) (l : Int) (K) (h1 : 0 ≤ l) (h2 : l ≤ 1048576) : ∃ r, Ct Try.prog 27 [.sl .no xs.length (encR .no (tArgS xs)), .int .i64 l] K (.int .i64 r) K ∧ SZ l (xs.length + szR (tArgS xs)) r := by
  refine ⟨_, ?_, subz_SZ _ _⟩
  refine ct_fn { n0 := 6, ex := [], tk := [] } Try.func27 rfl (by kernel_rfl) (by kernel_rfl) rfl ?_
  simp -implicitDefEqProofs [Try.f27]
  intro hn
  unfold maxLen at hn
  simp (disch := omega) only [wrap64]
  refine ⟨fun h => by unfold subz; rw [if_pos (by omega)], fun h => ?_⟩
  refine wC_loop (fun m s => ∃ i, i ≤ xs.length ∧ m = xs.length - i ∧ ((szR ((tArgS xs).take i) : Nat) : Int) ≤ l - xs.length ∧
    s = { env := [(0, .sl .no xs.length (encR .no (tArgS xs))), (1, .int .i64 (l - xs.length - szR ((tArgS xs).take i))), (4, .int .i64 0), (5, .int .i64 i)], loc := [], K := [] :: K }) xs.length _
    (St.le_of (by simp) (by simp [szR]) rfl rfl) ⟨0, by omega, rfl, by simp [szR]; omega, by simp [szR]⟩ ?_
  rintro m _ ⟨i, hi, rfl, hz, rfl⟩
  rcases Nat.lt_or_ge i xs.length with hlt | hge
  · obtain ⟨x, hx⟩ : ∃ x, xs[i]? = some x := ⟨_, List.getElem?_eq_getElem hlt⟩
    have ea := atArg (m := .no) hx
    have es := szR_get (tArgS_get hx)
    have el := szR_take_le (rs := tArgS xs) (i + 1)
    obtain ⟨r, hc, hr⟩ := c_szArg x (l - xs.length - szR ((tArgS xs).take i)) ([] :: K) (by omega) (by omega)
    unfold SZ at hr
    have hek := encL_len (m := .no) (r := tArg x)
    rw [tArg_len] at hek
    have htk : (encL .no (tArg x)).take 5 = encL .no (tArg x) := List.take_of_length_le (by omega)
    simp -implicitDefEqProofs [hlt, ea, hek, htk, encArgS_len]
    intro _
    refine callK_of hc ?_
    simp -implicitDefEqProofs
    unfold maxLen at *
    refine ⟨fun h3 => by unfold subz; rw [if_pos (by omega)], fun h3 => ?_⟩
    simp (disch := omega) only [wrap64]
    refine ⟨xs.length - (i + 1), by omega, _, St.le_of (by simp) ?_ rfl (by simp [St.trunc]), i + 1, by omega, rfl, by omega, rfl⟩
    have e3 : r = l - xs.length - (szR ((tArgS xs).take (i + 1)) : Nat) := by omega
    simp [St.trunc, look, mapV, mapC, e3]
  · have e : i = xs.length := by omega
    subst e
    simp -implicitDefEqProofs
    intro _
    have et : (tArgS xs).take xs.length = tArgS xs := List.take_of_length_le (by simp)
    rw [et] at hz ⊢
    unfold subz; rw [if_neg (by omega)]; try omega
theorem c_toArg (a : DArg) (K) (hs : szL (tArg a) ≤ 1048576) : Ct Try.prog 83 [.agg (encL .no (tArg a))] K (.agg (encL .ex (tArg a))) K := by
  obtain ⟨x0, ⟨x1_0, x1_1, x1_2, x1_3⟩⟩ := a
  have es : szL (tArg ⟨x0, ⟨x1_0, x1_1, x1_2, x1_3⟩⟩) = x0.length + x1_1.length + (x1_2.length + szR (tValueS x1_2)) + (x1_3.length + szR (tStrS x1_3)) := by simp [tArg, tValue, encL_app, encL, encT, szL, szT]; try omega
  rw [es] at hs
  refine ct_fn { n0 := 4, ex := [], tk := [9, 11] } Try.func83 rfl (by kernel_rfl) (by kernel_rfl) rfl ?_
  simp -implicitDefEqProofs [Try.f83, tArg, tValue, encL_app, encL, encT, szL, szT]
  have es1 : szL (tValue ⟨x1_0, x1_1, x1_2, x1_3⟩) = x1_1.length + (x1_2.length + szR (tValueS x1_2)) + (x1_3.length + szR (tStrS x1_3)) := by simp [tValue, encL_app, encL, encT, szL, szT]; try omega
  have hc := fun K => c_toValue ⟨x1_0, x1_1, x1_2, x1_3⟩ K (by omega)
  simp only [tValue, encL_app, encL, encT, List.cons_append, List.nil_append, Md.ow_no, Md.ow_ex, tStrS_len, tIntS_len, tValueS_len] at hc
  refine callK_of (hc _) ?_
  simp -implicitDefEqProofs
theorem c_toArgS (xs : List DArg) (K) (hs : xs.length + szR (tArgS xs) ≤ 1048576) : Ct Try.prog 29 [.sl .no xs.length (encR .no (tArgS xs))] K (.sl (.ex 137) xs.length (encR .ex (tArgS xs))) K := by
  refine ct_fn { n0 := 5, ex := [], tk := [7, 20, 22], kp := [7], es := true } Try.func29 rfl (by kernel_rfl) (by kernel_rfl) rfl ?_
  simp -implicitDefEqProofs [Try.f29]
  intro h1
  unfold maxLen at h1
  refine ⟨by unfold maxLen; omega, fun y => ?_⟩
  have e0 : (List.replicate xs.length ([.str [], .int .i64 0, .str [], .sl .nil 0 [], .sl .nil 0 []] : List AC)).flatten = filled .ex [.str [], .int .i64 0, .str [], .sl .nil 0 [], .sl .nil 0 []] (tArgS xs) 0 := by rw [filled_zero]; simp
  rw [e0]
  refine wC_for (fun i => { env := [(0, .sl .no xs.length (encR .no (tArgS xs))), (2, .sl .nil 0 []), (3, .nam y (.sl (.ex 137) xs.length (filled .ex [.str [], .int .i64 0, .str [], .sl .nil 0 [], .sl .nil 0 []] (tArgS xs) i))), (4, .int .i64 i)], loc := [], K := [] :: K }) xs.length (St.le_of (by simp) (by simp) rfl rfl) ?_
  intro i hi
  have efl := filled_len (m := .ex) (z := [.str [], .int .i64 0, .str [], .sl .nil 0 [], .sl .nil 0 []]) (i := i) (tArgS_rows (xs := xs)) rfl (by simpa using hi)
  rcases Nat.lt_or_ge i xs.length with hlt | hge
  · obtain ⟨x, hx⟩ : ∃ x, xs[i]? = some x := ⟨_, List.getElem?_eq_getElem hlt⟩
    have ea := atArg (m := .no) hx
    have ef := filled_next (m := .ex) (z := [.str [], .int .i64 0, .str [], .sl .nil 0 [], .sl .nil 0 []]) tArgS_rows rfl (tArgS_get hx)
    have es := szR_get (tArgS_get hx)
    have el := szR_take_le (rs := tArgS xs) (i + 1)
    have hc := fun K => c_toArg x K (by omega)
    have hek := encL_len (m := .no) (r := tArg x)
    have hek2 := encL_len (m := .ex) (r := tArg x)
    have hfl := flat_enc (m := .ex) (r := tArg x)
    rw [tArg_len] at hek hek2
    unfold putCells at ef
    rw [hek2] at ef
    have htk : (encL .no (tArg x)).take 5 = encL .no (tArg x) := List.take_of_length_le (by omega)
    simp -implicitDefEqProofs [hlt, ea, hek, htk, encArgS_len]
    intro _
    refine callK_of (hc _) ?_
    have hfl2 : (encL .ex (tArg x)).all flat = true := List.all_eq_true.2 hfl
    rw [tArgS_len] at efl
    simp -implicitDefEqProofs [hek2, efl, ef, hfl2, hlt]
    refine ⟨by omega, ?_⟩
    unfold maxLen at *
    simp (disch := omega) only [wrap64]
    exact for_next hlt (St.le_of (by simp) (by simp [St.trunc, look, mapV, mapC]) rfl (by simp [St.trunc]))
  · have e : i = xs.length := by omega
    subst e
    have eq : filled .ex [.str [], .int .i64 0, .str [], .sl .nil 0 [], .sl .nil 0 []] (tArgS xs) xs.length = encR .ex (tArgS xs) := by rw [← filled_all (z := ([.str [], .int .i64 0, .str [], .sl .nil 0 [], .sl .nil 0 []] : List AC))]; simp
    simp -implicitDefEqProofs [eq]
theorem c_eqArg (a b : DArg) (K) : Ct Try.prog 89 [.agg (encL .no (tArg a)), .agg (encL .no (tArg b))] K (.bool (eqB a b)) K := by
  obtain ⟨x0, ⟨x1_0, x1_1, x1_2, x1_3⟩⟩ := a
  obtain ⟨y0, ⟨y1_0, y1_1, y1_2, y1_3⟩⟩ := b
  refine ct_fn { n0 := 5, ex := [], tk := [] } Try.func89 rfl (by kernel_rfl) (by kernel_rfl) rfl ?_
  simp -implicitDefEqProofs [Try.f89, tArg, tValue, encL_app, encL, encT, szL, szT]
  refine ⟨fun h => eqB_ne fun e => h (by cases e; rfl), fun h0 => ?_⟩
  have hc := fun K => c_eqValue ⟨x1_0, x1_1, x1_2, x1_3⟩ ⟨y1_0, y1_1, y1_2, y1_3⟩ K
  simp only [tValue, encL_app, encL, encT, List.cons_append, List.nil_append, Md.ow_no, tStrS_len, tIntS_len, tValueS_len] at hc
  refine callK_of (hc _) ?_
  simp -implicitDefEqProofs
  refine ⟨fun h => eqB_ne fun e => (by cases e; rw [eqB_self] at h; cases h), fun h1 => ?_⟩
  rw [eqB_iff] at h1
  rw [eqB_iff]
  try cases h0
  try cases h1
  rfl
theorem c_eqArgS (xs ys : List DArg) (K) : Ct Try.prog 31 [.sl .no xs.length (encR .no (tArgS xs)), .sl .no ys.length (encR .no (tArgS ys))] K (.bool (eqB xs ys)) K := by
  refine ct_fn { n0 := 6, ex := [], tk := [] } Try.func31 rfl (by kernel_rfl) (by kernel_rfl) rfl ?_
  simp -implicitDefEqProofs [Try.f31]
  intro h1 h2
  refine ⟨fun h => eqB_ne fun e => h (by rw [e]), fun hlen => ?_⟩
  refine wC_loop (fun m s => ∃ i, i ≤ xs.length ∧ m = xs.length - i ∧ xs.take i = ys.take i ∧
    s = { env := [(0, .sl .no xs.length (encR .no (tArgS xs))), (1, .sl .no ys.length (encR .no (tArgS ys))), (4, .bool false), (5, .int .i64 i)], loc := [], K := [] :: K }) xs.length _
    (St.le_of (by simp) (by simp) rfl rfl) ⟨0, by omega, rfl, by simp, rfl⟩ ?_
  rintro m _ ⟨i, hi, rfl, hz, rfl⟩
  rcases Nat.lt_or_ge i xs.length with hlt | hge
  · obtain ⟨x, hx⟩ : ∃ x, xs[i]? = some x := ⟨_, List.getElem?_eq_getElem hlt⟩
    obtain ⟨z, hz2⟩ : ∃ x, ys[i]? = some x := ⟨_, List.getElem?_eq_getElem (by omega)⟩
    have ea := atArg (m := .no) hx
    have eb := atArg (m := .no) hz2
    have hek := encL_len (m := .no) (r := tArg x)
    have hek2 := encL_len (m := .no) (r := tArg z)
    rw [tArg_len] at hek hek2
    have hc := fun K => c_eqArg x z K
    have htk : (encL .no (tArg x)).take 5 = encL .no (tArg x) := List.take_of_length_le (by omega)
    have htk2 : (encL .no (tArg z)).take 5 = encL .no (tArg z) := List.take_of_length_le (by omega)
    simp -implicitDefEqProofs [hlt, ea, eb, hek, hek2, htk, htk2, encArgS_len]
    intro _
    refine wRun_draw true rfl (by decide +kernel) ?_
    simp -implicitDefEqProofs [hlt, ea, eb, hek, hek2, htk, htk2, encArgS_len]
    refine ⟨by omega, ?_⟩
    refine callK_of (hc _) ?_
    simp -implicitDefEqProofs
    refine ⟨fun h3 => eqB_ne fun e => (by rw [e, hz2] at hx; cases hx; rw [eqB_self] at h3; cases h3), fun h3 => ?_⟩
    rw [eqB_iff] at h3
    subst h3
    unfold maxLen at *
    simp (disch := omega) only [wrap64]
    refine ⟨xs.length - (i + 1), by omega, _, St.le_of (by simp) ?_ rfl (by simp [St.trunc]), i + 1, by omega, rfl, ?_, rfl⟩
    · simp [St.trunc, look, mapV, mapC]
    · rw [List.take_add_one, List.take_add_one, hz, hx, hz2]
  · have e : i = xs.length := by omega
    subst e
    simp -implicitDefEqProofs
    intro _
    refine (eqB_iff.2 ?_)
    rw [List.take_of_length_le (by omega), List.take_of_length_le (by omega)] at hz
    exact hz
theorem c_szDir (a : DDir) (l : Int) (K) (h1 : 0 ≤ l) (h2 : l ≤ 1048576) : ∃ r, Ct Try.prog 77 [.agg (encL .no (tDir a)), .int .i64 l] K (.int .i64 r) K ∧ SZ l (szL (tDir a)) r := by
  obtain ⟨x0, x1⟩ := a
  have es : szL (tDir ⟨x0, x1⟩) = x0.length + (x1.length + szR (tArgS x1)) := by simp [tDir, encL_app, encL, encT, szL, szT]; try omega
  refine ⟨_, ?_, subz_SZ _ _⟩
  rw [es]
  refine ct_fn { n0 := 5, ex := [], tk := [] } Try.func77 rfl (by kernel_rfl) (by kernel_rfl) rfl ?_
  simp -implicitDefEqProofs [Try.f77, tDir, encL_app, encL, encT, szL, szT]
  intro hn0
  unfold maxLen at hn0
  simp (disch := omega) only [wrap64]
  refine ⟨fun h => by unfold subz; rw [if_pos (by omega)], fun h0 => ?_⟩
  obtain ⟨r1, hc, hr1⟩ := c_szArgS x1 (l - x0.length) _ (by omega) (by omega)
  refine callK_of hc ?_
  simp -implicitDefEqProofs
  unfold SZ at hr1
  refine ⟨fun h => by unfold subz; rw [if_pos (by omega)], fun h1 => ?_⟩
  unfold subz; rw [if_neg (by omega)]; try omega
theorem c_szDirS (xs : List DDir) (l : Int) (K) (h1 : 0 ≤ l) (h2 : l ≤ 1048576) : ∃ r, Ct Try.prog 22 [.sl .no xs.length (encR .no (tDirS xs)), .int .i64 l] K (.int .i64 r) K ∧ SZ l (xs.length + szR (tDirS xs)) r := by
  refine ⟨_, ?_, subz_SZ _ _⟩
  refine ct_fn { n0 := 6, ex := [], tk := [] } Try.func22 rfl (by kernel_rfl) (by kernel_rfl) rfl ?_
  simp -implicitDefEqProofs [Try.f22]
  intro hn
  unfold maxLen at hn
  simp (disch := omega) only [wrap64]
  refine ⟨fun h => by unfold subz; rw [if_pos (by omega)], fun h => ?_⟩
  refine wC_loop (fun m s => ∃ i, i ≤ xs.length ∧ m = xs.length - i ∧ ((szR ((tDirS xs).take i) : Nat) : Int) ≤ l - xs.length ∧
    s = { env := [(0, .sl .no xs.length (encR .no (tDirS xs))), (1, .int .i64 (l - xs.length - szR ((tDirS xs).take i))), (4, .int .i64 0), (5, .int .i64 i)], loc := [], K := [] :: K }) xs.length _
    (St.le_of (by simp) (by simp [szR]) rfl rfl) ⟨0, by omega, rfl, by simp [szR]; omega, by simp [szR]⟩ ?_
  rintro m _ ⟨i, hi, rfl, hz, rfl⟩
  rcases Nat.lt_or_ge i xs.length with hlt | hge
  · obtain ⟨x, hx⟩ : ∃ x, xs[i]? = some x := ⟨_, List.getElem?_eq_getElem hlt⟩
    have ea := atDir (m := .no) hx
    have es := szR_get (tDirS_get hx)
    have el := szR_take_le (rs := tDirS xs) (i + 1)
    obtain ⟨r, hc, hr⟩ := c_szDir x (l - xs.length - szR ((tDirS xs).take i)) ([] :: K) (by omega) (by omega)
    unfold SZ at hr
    have hek := encL_len (m := .no) (r := tDir x)
    rw [tDir_len] at hek
    have htk : (encL .no (tDir x)).take 2 = encL .no (tDir x) := List.take_of_length_le (by omega)
    simp -implicitDefEqProofs [hlt, ea, hek, htk, encDirS_len]
    intro _
    refine callK_of hc ?_
    simp -implicitDefEqProofs
    unfold maxLen at *
    refine ⟨fun h3 => by unfold subz; rw [if_pos (by omega)], fun h3 => ?_⟩
    simp (disch := omega) only [wrap64]
    refine ⟨xs.length - (i + 1), by omega, _, St.le_of (by simp) ?_ rfl (by simp [St.trunc]), i + 1, by omega, rfl, by omega, rfl⟩
    have e3 : r = l - xs.length - (szR ((tDirS xs).take (i + 1)) : Nat) := by omega
    simp [St.trunc, look, mapV, mapC, e3]
  · have e : i = xs.length := by omega
    subst e
    simp -implicitDefEqProofs
    intro _
    have et : (tDirS xs).take xs.length = tDirS xs := List.take_of_length_le (by simp)
    rw [et] at hz ⊢
    unfold subz; rw [if_neg (by omega)]; try omega
theorem c_toDir (a : DDir) (K) (hs : szL (tDir a) ≤ 1048576) : Ct Try.prog 78 [.agg (encL .no (tDir a))] K (.agg (encL .ex (tDir a))) K := by
  obtain ⟨x0, x1⟩ := a
  have es : szL (tDir ⟨x0, x1⟩) = x0.length + (x1.length + szR (tArgS x1)) := by simp [tDir, encL_app, encL, encT, szL, szT]; try omega
  rw [es] at hs
  refine ct_fn { n0 := 4, ex := [], tk := [9, 11] } Try.func78 rfl (by kernel_rfl) (by kernel_rfl) rfl ?_
  simp -implicitDefEqProofs [Try.f78, tDir, encL_app, encL, encT, szL, szT]
  refine callK_of (c_toArgS x1 _ (by omega)) ?_
  simp -implicitDefEqProofs
theorem c_toDirS (xs : List DDir) (K) (hs : xs.length + szR (tDirS xs) ≤ 1048576) : Ct Try.prog 24 [.sl .no xs.length (encR .no (tDirS xs))] K (.sl (.ex 135) xs.length (encR .ex (tDirS xs))) K := by
  refine ct_fn { n0 := 5, ex := [], tk := [7, 20, 22], kp := [7], es := true } Try.func24 rfl (by kernel_rfl) (by kernel_rfl) rfl ?_
  simp -implicitDefEqProofs [Try.f24]
  intro h1
  unfold maxLen at h1
  refine ⟨by unfold maxLen; omega, fun y => ?_⟩
  have e0 : (List.replicate xs.length ([.str [], .sl .nil 0 []] : List AC)).flatten = filled .ex [.str [], .sl .nil 0 []] (tDirS xs) 0 := by rw [filled_zero]; simp
  rw [e0]
  refine wC_for (fun i => { env := [(0, .sl .no xs.length (encR .no (tDirS xs))), (2, .sl .nil 0 []), (3, .nam y (.sl (.ex 135) xs.length (filled .ex [.str [], .sl .nil 0 []] (tDirS xs) i))), (4, .int .i64 i)], loc := [], K := [] :: K }) xs.length (St.le_of (by simp) (by simp) rfl rfl) ?_
  intro i hi
  have efl := filled_len (m := .ex) (z := [.str [], .sl .nil 0 []]) (i := i) (tDirS_rows (xs := xs)) rfl (by simpa using hi)
  rcases Nat.lt_or_ge i xs.length with hlt | hge
  · obtain ⟨x, hx⟩ : ∃ x, xs[i]? = some x := ⟨_, List.getElem?_eq_getElem hlt⟩
    have ea := atDir (m := .no) hx
    have ef := filled_next (m := .ex) (z := [.str [], .sl .nil 0 []]) tDirS_rows rfl (tDirS_get hx)
    have es := szR_get (tDirS_get hx)
    have el := szR_take_le (rs := tDirS xs) (i + 1)
    have hc := fun K => c_toDir x K (by omega)
    have hek := encL_len (m := .no) (r := tDir x)
    have hek2 := encL_len (m := .ex) (r := tDir x)
    have hfl := flat_enc (m := .ex) (r := tDir x)
    rw [tDir_len] at hek hek2
    unfold putCells at ef
    rw [hek2] at ef
    have htk : (encL .no (tDir x)).take 2 = encL .no (tDir x) := List.take_of_length_le (by omega)
    simp -implicitDefEqProofs [hlt, ea, hek, htk, encDirS_len]
    intro _
    refine callK_of (hc _) ?_
    have hfl2 : (encL .ex (tDir x)).all flat = true := List.all_eq_true.2 hfl
    rw [tDirS_len] at efl
    simp -implicitDefEqProofs [hek2, efl, ef, hfl2, hlt]
    refine ⟨by omega, ?_⟩
    unfold maxLen at *
    simp (disch := omega) only [wrap64]
    exact for_next hlt (St.le_of (by simp) (by simp [St.trunc, look, mapV, mapC]) rfl (by simp [St.trunc]))
  · have e : i = xs.length := by omega
    subst e
    have eq : filled .ex [.str [], .sl .nil 0 []] (tDirS xs) xs.length = encR .ex (tDirS xs) := by rw [← filled_all (z := ([.str [], .sl .nil 0 []] : List AC))]; simp
    simp -implicitDefEqProofs [eq]
theorem c_eqDir (a b : DDir) (K) : Ct Try.prog 79 [.agg (encL .no (tDir a)), .agg (encL .no (tDir b))] K (.bool (eqB a b)) K := by
  obtain ⟨x0, x1⟩ := a
  obtain ⟨y0, y1⟩ := b
  refine ct_fn { n0 := 5, ex := [], tk := [] } Try.func79 rfl (by kernel_rfl) (by kernel_rfl) rfl ?_
  simp -implicitDefEqProofs [Try.f79, tDir, encL_app, encL, encT, szL, szT]
  refine ⟨fun h => eqB_ne fun e => h (by cases e; rfl), fun h0 => ?_⟩
  refine callK_of (c_eqArgS x1 y1 _) ?_
  simp -implicitDefEqProofs
  refine ⟨fun h => eqB_ne fun e => (by cases e; rw [eqB_self] at h; cases h), fun h1 => ?_⟩
  rw [eqB_iff] at h1
  rw [eqB_iff]
  try cases h0
  try cases h1
  rfl
theorem c_eqDirS (xs ys : List DDir) (K) : Ct Try.prog 26 [.sl .no xs.length (encR .no (tDirS xs)), .sl .no ys.length (encR .no (tDirS ys))] K (.bool (eqB xs ys)) K := by
  refine ct_fn { n0 := 6, ex := [], tk := [] } Try.func26 rfl (by kernel_rfl) (by kernel_rfl) rfl ?_
  simp -implicitDefEqProofs [Try.f26]
  intro h1 h2
  refine ⟨fun h => eqB_ne fun e => h (by rw [e]), fun hlen => ?_⟩
  refine wC_loop (fun m s => ∃ i, i ≤ xs.length ∧ m = xs.length - i ∧ xs.take i = ys.take i ∧
    s = { env := [(0, .sl .no xs.length (encR .no (tDirS xs))), (1, .sl .no ys.length (encR .no (tDirS ys))), (4, .bool false), (5, .int .i64 i)], loc := [], K := [] :: K }) xs.length _
    (St.le_of (by simp) (by simp) rfl rfl) ⟨0, by omega, rfl, by simp, rfl⟩ ?_
  rintro m _ ⟨i, hi, rfl, hz, rfl⟩
  rcases Nat.lt_or_ge i xs.length with hlt | hge
  · obtain ⟨x, hx⟩ : ∃ x, xs[i]? = some x := ⟨_, List.getElem?_eq_getElem hlt⟩
    obtain ⟨z, hz2⟩ : ∃ x, ys[i]? = some x := ⟨_, List.getElem?_eq_getElem (by omega)⟩
    have ea := atDir (m := .no) hx
    have eb := atDir (m := .no) hz2
    have hek := encL_len (m := .no) (r := tDir x)
    have hek2 := encL_len (m := .no) (r := tDir z)
    rw [tDir_len] at hek hek2
    have hc := fun K => c_eqDir x z K
    have htk : (encL .no (tDir x)).take 2 = encL .no (tDir x) := List.take_of_length_le (by omega)
    have htk2 : (encL .no (tDir z)).take 2 = encL .no (tDir z) := List.take_of_length_le (by omega)
    simp -implicitDefEqProofs [hlt, ea, eb, hek, hek2, htk, htk2, encDirS_len]
    intro _
    refine wRun_draw true rfl (by decide +kernel) ?_
    simp -implicitDefEqProofs [hlt, ea, eb, hek, hek2, htk, htk2, encDirS_len]
    refine ⟨by omega, ?_⟩
    refine callK_of (hc _) ?_
    simp -implicitDefEqProofs
    refine ⟨fun h3 => eqB_ne fun e => (by rw [e, hz2] at hx; cases hx; rw [eqB_self] at h3; cases h3), fun h3 => ?_⟩
    rw [eqB_iff] at h3
    subst h3
    unfold maxLen at *
    simp (disch := omega) only [wrap64]
    refine ⟨xs.length - (i + 1), by omega, _, St.le_of (by simp) ?_ rfl (by simp [St.trunc]), i + 1, by omega, rfl, ?_, rfl⟩
    · simp [St.trunc, look, mapV, mapC]
    · rw [List.take_add_one, List.take_add_one, hz, hx, hz2]
  · have e : i = xs.length := by omega
    subst e
    simp -implicitDefEqProofs
    intro _
    refine (eqB_iff.2 ?_)
    rw [List.take_of_length_le (by omega), List.take_of_length_le (by omega)] at hz
    exact hz
theorem c_szSel_rec : ∀ N : Nat, (∀ (a : DSel) (l : Int) (K : List (List (List AC))) (h1 : 0 ≤ l) (h2 : l ≤ 1048576) (hN : SizeOf.sizeOf a < N), ∃ r, Ct Try.prog 32 [.agg (encL .no (tSel a)), .int .i64 l] K (.int .i64 r) K ∧ SZ l (szL (tSel a)) r) ∧ (∀ (xs : List DSel) (l : Int) (K : List (List (List AC))) (h1 : 0 ≤ l) (h2 : l ≤ 1048576) (hN : SizeOf.sizeOf xs < N), ∃ r, Ct Try.prog 49 [.sl .no xs.length (encR .no (tSelS xs)), .int .i64 l] K (.int .i64 r) K ∧ SZ l (xs.length + szR (tSelS xs)) r) := by
  intro N
  induction N with
  | zero => exact ⟨fun a => by intros; omega, fun xs => by intros; omega⟩
  | succ N ih =>
  refine ⟨?_, ?_⟩
  · intro a l K h1 h2 hN
    obtain ⟨x0, x1, x2, x3, x4, x5, x6⟩ := a
    have es : szL (tSel ⟨x0, x1, x2, x3, x4, x5, x6⟩) = x1.length + x2.length + x3.length + (x4.length + szR (tArgS x4)) + (x5.length + szR (tDirS x5)) + (x6.length + szR (tSelS x6)) := by simp [tSel, encL_app, encL, encT, szL, szT]; try omega
    refine ⟨_, ?_, subz_SZ _ _⟩
    rw [es]
    refine ct_fn { n0 := 5, ex := [], tk := [] } Try.func32 rfl (by kernel_rfl) (by kernel_rfl) rfl ?_
    simp -implicitDefEqProofs [Try.f32, tSel, encL_app, encL, encT, szL, szT]
    intro hn1
    unfold maxLen at hn1
    simp (disch := omega) only [wrap64]
    refine ⟨fun h => by unfold subz; rw [if_pos (by omega)], fun h1 => ?_⟩
    intro hn2
    unfold maxLen at hn2
    simp (disch := omega) only [wrap64]
    refine ⟨fun h => by unfold subz; rw [if_pos (by omega)], fun h2 => ?_⟩
    intro hn3
    unfold maxLen at hn3
    simp (disch := omega) only [wrap64]
    refine ⟨fun h => by unfold subz; rw [if_pos (by omega)], fun h3 => ?_⟩
    obtain ⟨r4, hc, hr4⟩ := c_szArgS x4 (((l - x1.length) - x2.length) - x3.length) _ (by omega) (by omega)
    refine callK_of hc ?_
    simp -implicitDefEqProofs
    unfold SZ at hr4
    refine ⟨fun h => by unfold subz; rw [if_pos (by omega)], fun h4 => ?_⟩
    obtain ⟨r5, hc, hr5⟩ := c_szDirS x5 r4 _ (by omega) (by omega)
    refine callK_of hc ?_
    simp -implicitDefEqProofs
    unfold SZ at hr5
    refine ⟨fun h => by unfold subz; rw [if_pos (by omega)], fun h5 => ?_⟩
    obtain ⟨r6, hc, hr6⟩ := ih.2 x6 r5 _ (by omega) (by omega) (by simp at hN; omega)
    refine callK_of hc ?_
    simp -implicitDefEqProofs
    unfold SZ at hr6
    refine ⟨fun h => by unfold subz; rw [if_pos (by omega)], fun h6 => ?_⟩
    unfold subz; rw [if_neg (by omega)]; try omega
  · intro xs l K h1 h2 hN
    refine ⟨_, ?_, subz_SZ _ _⟩
    refine ct_fn { n0 := 6, ex := [], tk := [] } Try.func49 rfl (by kernel_rfl) (by kernel_rfl) rfl ?_
    simp -implicitDefEqProofs [Try.f49]
    intro hn
    unfold maxLen at hn
    simp (disch := omega) only [wrap64]
    refine ⟨fun h => by unfold subz; rw [if_pos (by omega)], fun h => ?_⟩
    refine wC_loop (fun m s => ∃ i, i ≤ xs.length ∧ m = xs.length - i ∧ ((szR ((tSelS xs).take i) : Nat) : Int) ≤ l - xs.length ∧
      s = { env := [(0, .sl .no xs.length (encR .no (tSelS xs))), (1, .int .i64 (l - xs.length - szR ((tSelS xs).take i))), (4, .int .i64 0), (5, .int .i64 i)], loc := [], K := [] :: K }) xs.length _
      (St.le_of (by simp) (by simp [szR]) rfl rfl) ⟨0, by omega, rfl, by simp [szR]; omega, by simp [szR]⟩ ?_
    rintro m _ ⟨i, hi, rfl, hz, rfl⟩
    rcases Nat.lt_or_ge i xs.length with hlt | hge
    · obtain ⟨x, hx⟩ : ∃ x, xs[i]? = some x := ⟨_, List.getElem?_eq_getElem hlt⟩
      have ea := atSel (m := .no) hx
      have es := szR_get (tSelS_get hx)
      have el := szR_take_le (rs := tSelS xs) (i + 1)
      obtain ⟨r, hc, hr⟩ := ih.1 x (l - xs.length - szR ((tSelS xs).take i)) ([] :: K) (by omega) (by omega) (by have := List.sizeOf_lt_of_mem (List.mem_of_getElem? hx); omega)
      unfold SZ at hr
      have hek := encL_len (m := .no) (r := tSel x)
      rw [tSel_len] at hek
      have htk : (encL .no (tSel x)).take 7 = encL .no (tSel x) := List.take_of_length_le (by omega)
      simp -implicitDefEqProofs [hlt, ea, hek, htk, encSelS_len]
      intro _
      refine callK_of hc ?_
      simp -implicitDefEqProofs
      unfold maxLen at *
      refine ⟨fun h3 => by unfold subz; rw [if_pos (by omega)], fun h3 => ?_⟩
      simp (disch := omega) only [wrap64]
      refine ⟨xs.length - (i + 1), by omega, _, St.le_of (by simp) ?_ rfl (by simp [St.trunc]), i + 1, by omega, rfl, by omega, rfl⟩
      have e3 : r = l - xs.length - (szR ((tSelS xs).take (i + 1)) : Nat) := by omega
      simp [St.trunc, look, mapV, mapC, e3]
    · have e : i = xs.length := by omega
      subst e
      simp -implicitDefEqProofs
      intro _
      have et : (tSelS xs).take xs.length = tSelS xs := List.take_of_length_le (by simp)
      rw [et] at hz ⊢
      unfold subz; rw [if_neg (by omega)]; try omega
theorem c_szSel (a : DSel) (l : Int) (K) (h1 : 0 ≤ l) (h2 : l ≤ 1048576) : ∃ r, Ct Try.prog 32 [.agg (encL .no (tSel a)), .int .i64 l] K (.int .i64 r) K ∧ SZ l (szL (tSel a)) r := (c_szSel_rec _).1 a l K h1 h2 (Nat.lt_succ_self _)
theorem c_szSelS (xs : List DSel) (l : Int) (K) (h1 : 0 ≤ l) (h2 : l ≤ 1048576) : ∃ r, Ct Try.prog 49 [.sl .no xs.length (encR .no (tSelS xs)), .int .i64 l] K (.int .i64 r) K ∧ SZ l (xs.length + szR (tSelS xs)) r := (c_szSel_rec _).2 xs l K h1 h2 (Nat.lt_succ_self _)
theorem c_toSel_rec : ∀ N : Nat, (∀ (a : DSel) (K : List (List (List AC))) (hs : szL (tSel a) ≤ 1048576) (hN : SizeOf.sizeOf a < N), Ct Try.prog 34 [.agg (encL .no (tSel a))] K (.agg (encL .ex (tSel a))) K) ∧ (∀ (xs : List DSel) (K : List (List (List AC))) (hs : xs.length + szR (tSelS xs) ≤ 1048576) (hN : SizeOf.sizeOf xs < N), Ct Try.prog 51 [.sl .no xs.length (encR .no (tSelS xs))] K (.sl (.ex 52) xs.length (encR .ex (tSelS xs))) K) := by
  intro N
  induction N with
  | zero => exact ⟨fun a => by intros; omega, fun xs => by intros; omega⟩
  | succ N ih =>
  refine ⟨?_, ?_⟩
  · intro a K hs hN
    obtain ⟨x0, x1, x2, x3, x4, x5, x6⟩ := a
    have es : szL (tSel ⟨x0, x1, x2, x3, x4, x5, x6⟩) = x1.length + x2.length + x3.length + (x4.length + szR (tArgS x4)) + (x5.length + szR (tDirS x5)) + (x6.length + szR (tSelS x6)) := by simp [tSel, encL_app, encL, encT, szL, szT]; try omega
    rw [es] at hs
    refine ct_fn { n0 := 4, ex := [], tk := [18, 22, 26, 28] } Try.func34 rfl (by kernel_rfl) (by kernel_rfl) rfl ?_
    simp -implicitDefEqProofs [Try.f34, tSel, encL_app, encL, encT, szL, szT]
    refine callK_of (c_toArgS x4 _ (by omega)) ?_
    simp -implicitDefEqProofs
    refine callK_of (c_toDirS x5 _ (by omega)) ?_
    simp -implicitDefEqProofs
    refine callK_of (ih.2 x6 _ (by omega) (by simp at hN; omega)) ?_
    simp -implicitDefEqProofs
  · intro xs K hs hN
    refine ct_fn { n0 := 5, ex := [], tk := [7, 20, 22], kp := [7], es := true } Try.func51 rfl (by kernel_rfl) (by kernel_rfl) rfl ?_
    simp -implicitDefEqProofs [Try.f51]
    intro h1
    unfold maxLen at h1
    refine ⟨by unfold maxLen; omega, fun y => ?_⟩
    have e0 : (List.replicate xs.length ([.int .i64 0, .str [], .str [], .str [], .sl .nil 0 [], .sl .nil 0 [], .sl .nil 0 []] : List AC)).flatten = filled .ex [.int .i64 0, .str [], .str [], .str [], .sl .nil 0 [], .sl .nil 0 [], .sl .nil 0 []] (tSelS xs) 0 := by rw [filled_zero]; simp
    rw [e0]
    refine wC_for (fun i => { env := [(0, .sl .no xs.length (encR .no (tSelS xs))), (2, .sl .nil 0 []), (3, .nam y (.sl (.ex 52) xs.length (filled .ex [.int .i64 0, .str [], .str [], .str [], .sl .nil 0 [], .sl .nil 0 [], .sl .nil 0 []] (tSelS xs) i))), (4, .int .i64 i)], loc := [], K := [] :: K }) xs.length (St.le_of (by simp) (by simp) rfl rfl) ?_
    intro i hi
    have efl := filled_len (m := .ex) (z := [.int .i64 0, .str [], .str [], .str [], .sl .nil 0 [], .sl .nil 0 [], .sl .nil 0 []]) (i := i) (tSelS_rows (xs := xs)) rfl (by simpa using hi)
    rcases Nat.lt_or_ge i xs.length with hlt | hge
    · obtain ⟨x, hx⟩ : ∃ x, xs[i]? = some x := ⟨_, List.getElem?_eq_getElem hlt⟩
      have ea := atSel (m := .no) hx
      have ef := filled_next (m := .ex) (z := [.int .i64 0, .str [], .str [], .str [], .sl .nil 0 [], .sl .nil 0 [], .sl .nil 0 []]) tSelS_rows rfl (tSelS_get hx)
      have es := szR_get (tSelS_get hx)
      have el := szR_take_le (rs := tSelS xs) (i + 1)
      have hc := fun K => ih.1 x K (by omega) (by have := List.sizeOf_lt_of_mem (List.mem_of_getElem? hx); omega)
      have hek := encL_len (m := .no) (r := tSel x)
      have hek2 := encL_len (m := .ex) (r := tSel x)
      have hfl := flat_enc (m := .ex) (r := tSel x)
      rw [tSel_len] at hek hek2
      unfold putCells at ef
      rw [hek2] at ef
      have htk : (encL .no (tSel x)).take 7 = encL .no (tSel x) := List.take_of_length_le (by omega)
      simp -implicitDefEqProofs [hlt, ea, hek, htk, encSelS_len]
      intro _
      refine callK_of (hc _) ?_
      have hfl2 : (encL .ex (tSel x)).all flat = true := List.all_eq_true.2 hfl
      rw [tSelS_len] at efl
      simp -implicitDefEqProofs [hek2, efl, ef, hfl2, hlt]
      refine ⟨by omega, ?_⟩
      unfold maxLen at *
      simp (disch := omega) only [wrap64]
      exact for_next hlt (St.le_of (by simp) (by simp [St.trunc, look, mapV, mapC]) rfl (by simp [St.trunc]))
    · have e : i = xs.length := by omega
      subst e
      have eq : filled .ex [.int .i64 0, .str [], .str [], .str [], .sl .nil 0 [], .sl .nil 0 [], .sl .nil 0 []] (tSelS xs) xs.length = encR .ex (tSelS xs) := by rw [← filled_all (z := ([.int .i64 0, .str [], .str [], .str [], .sl .nil 0 [], .sl .nil 0 [], .sl .nil 0 []] : List AC))]; simp
      simp -implicitDefEqProofs [eq]
theorem c_toSel (a : DSel) (K) (hs : szL (tSel a) ≤ 1048576) : Ct Try.prog 34 [.agg (encL .no (tSel a))] K (.agg (encL .ex (tSel a))) K := (c_toSel_rec _).1 a K hs (Nat.lt_succ_self _)
theorem c_toSelS (xs : List DSel) (K) (hs : xs.length + szR (tSelS xs) ≤ 1048576) : Ct Try.prog 51 [.sl .no xs.length (encR .no (tSelS xs))] K (.sl (.ex 52) xs.length (encR .ex (tSelS xs))) K := (c_toSel_rec _).2 xs K hs (Nat.lt_succ_self _)
theorem c_eqSel_rec : ∀ N : Nat, (∀ (a b : DSel) (K : List (List (List AC))) (hN : SizeOf.sizeOf a < N), Ct Try.prog 36 [.agg (encL .no (tSel a)), .agg (encL .no (tSel b))] K (.bool (eqB a b)) K) ∧ (∀ (xs ys : List DSel) (K : List (List (List AC))) (hN : SizeOf.sizeOf xs < N), Ct Try.prog 53 [.sl .no xs.length (encR .no (tSelS xs)), .sl .no ys.length (encR .no (tSelS ys))] K (.bool (eqB xs ys)) K) := by
  intro N
  induction N with
  | zero => exact ⟨fun a => by intros; omega, fun xs => by intros; omega⟩
  | succ N ih =>
  refine ⟨?_, ?_⟩
  · intro a b K hN
    obtain ⟨x0, x1, x2, x3, x4, x5, x6⟩ := a
    obtain ⟨y0, y1, y2, y3, y4, y5, y6⟩ := b
    refine ct_fn { n0 := 5, ex := [], tk := [] } Try.func36 rfl (by kernel_rfl) (by kernel_rfl) rfl ?_
    simp -implicitDefEqProofs [Try.f36, tSel, encL_app, encL, encT, szL, szT]
    refine ⟨fun h => eqB_ne fun e => h (by cases e; rfl), fun h0 => ?_⟩
    refine ⟨fun h => eqB_ne fun e => h (by cases e; rfl), fun h1 => ?_⟩
    refine ⟨fun h => eqB_ne fun e => h (by cases e; rfl), fun h2 => ?_⟩
    refine ⟨fun h => eqB_ne fun e => h (by cases e; rfl), fun h3 => ?_⟩
    refine callK_of (c_eqArgS x4 y4 _) ?_
    simp -implicitDefEqProofs
    refine ⟨fun h => eqB_ne fun e => (by cases e; rw [eqB_self] at h; cases h), fun h4 => ?_⟩
    rw [eqB_iff] at h4
    refine callK_of (c_eqDirS x5 y5 _) ?_
    simp -implicitDefEqProofs
    refine ⟨fun h => eqB_ne fun e => (by cases e; rw [eqB_self] at h; cases h), fun h5 => ?_⟩
    rw [eqB_iff] at h5
    refine callK_of (ih.2 x6 y6 _ (by simp at hN; omega)) ?_
    simp -implicitDefEqProofs
    refine ⟨fun h => eqB_ne fun e => (by cases e; rw [eqB_self] at h; cases h), fun h6 => ?_⟩
    rw [eqB_iff] at h6
    rw [eqB_iff]
    try cases h0
    try cases h1
    try cases h2
    try cases h3
    try cases h4
    try cases h5
    try cases h6
    rfl
  · intro xs ys K hN
    refine ct_fn { n0 := 6, ex := [], tk := [] } Try.func53 rfl (by kernel_rfl) (by kernel_rfl) rfl ?_
    simp -implicitDefEqProofs [Try.f53]
    intro h1 h2
    refine ⟨fun h => eqB_ne fun e => h (by rw [e]), fun hlen => ?_⟩
    refine wC_loop (fun m s => ∃ i, i ≤ xs.length ∧ m = xs.length - i ∧ xs.take i = ys.take i ∧
      s = { env := [(0, .sl .no xs.length (encR .no (tSelS xs))), (1, .sl .no ys.length (encR .no (tSelS ys))), (4, .bool false), (5, .int .i64 i)], loc := [], K := [] :: K }) xs.length _
      (St.le_of (by simp) (by simp) rfl rfl) ⟨0, by omega, rfl, by simp, rfl⟩ ?_
    rintro m _ ⟨i, hi, rfl, hz, rfl⟩
    rcases Nat.lt_or_ge i xs.length with hlt | hge
    · obtain ⟨x, hx⟩ : ∃ x, xs[i]? = some x := ⟨_, List.getElem?_eq_getElem hlt⟩
      obtain ⟨z, hz2⟩ : ∃ x, ys[i]? = some x := ⟨_, List.getElem?_eq_getElem (by omega)⟩
      have ea := atSel (m := .no) hx
      have eb := atSel (m := .no) hz2
      have hek := encL_len (m := .no) (r := tSel x)
      have hek2 := encL_len (m := .no) (r := tSel z)
      rw [tSel_len] at hek hek2
      have hc := fun K => ih.1 x z K (by have := List.sizeOf_lt_of_mem (List.mem_of_getElem? hx); omega)
      have htk : (encL .no (tSel x)).take 7 = encL .no (tSel x) := List.take_of_length_le (by omega)
      have htk2 : (encL .no (tSel z)).take 7 = encL .no (tSel z) := List.take_of_length_le (by omega)
      simp -implicitDefEqProofs [hlt, ea, eb, hek, hek2, htk, htk2, encSelS_len]
      intro _
      refine wRun_draw true rfl (by decide +kernel) ?_
      simp -implicitDefEqProofs [hlt, ea, eb, hek, hek2, htk, htk2, encSelS_len]
      refine ⟨by omega, ?_⟩
      refine callK_of (hc _) ?_
      simp -implicitDefEqProofs
      refine ⟨fun h3 => eqB_ne fun e => (by rw [e, hz2] at hx; cases hx; rw [eqB_self] at h3; cases h3), fun h3 => ?_⟩
      rw [eqB_iff] at h3
      subst h3
      unfold maxLen at *
      simp (disch := omega) only [wrap64]
      refine ⟨xs.length - (i + 1), by omega, _, St.le_of (by simp) ?_ rfl (by simp [St.trunc]), i + 1, by omega, rfl, ?_, rfl⟩
      · simp [St.trunc, look, mapV, mapC]
      · rw [List.take_add_one, List.take_add_one, hz, hx, hz2]
    · have e : i = xs.length := by omega
      subst e
      simp -implicitDefEqProofs
      intro _
      refine (eqB_iff.2 ?_)
      rw [List.take_of_length_le (by omega), List.take_of_length_le (by omega)] at hz
      exact hz
theorem c_eqSel (a b : DSel) (K) : Ct Try.prog 36 [.agg (encL .no (tSel a)), .agg (encL .no (tSel b))] K (.bool (eqB a b)) K := (c_eqSel_rec _).1 a b K (Nat.lt_succ_self _)
theorem c_eqSelS (xs ys : List DSel) (K) : Ct Try.prog 53 [.sl .no xs.length (encR .no (tSelS xs)), .sl .no ys.length (encR .no (tSelS ys))] K (.bool (eqB xs ys)) K := (c_eqSel_rec _).2 xs ys K (Nat.lt_succ_self _)
theorem c_szVarDef (a : DVarDef) (l : Int) (K) (h1 : 0 ≤ l) (h2 : l ≤ 1048576) : ∃ r, Ct Try.prog 42 [.agg (encL .no (tVarDef a)), .int .i64 l] K (.int .i64 r) K ∧ SZ l (szL (tVarDef a)) r := by
  obtain ⟨x0, ⟨x1_0, x1_1⟩, x2, ⟨x3_0, x3_1, x3_2, x3_3⟩, x4⟩ := a
  have es : szL (tVarDef ⟨x0, ⟨x1_0, x1_1⟩, x2, ⟨x3_0, x3_1, x3_2, x3_3⟩, x4⟩) = x0.length + x1_0.length + x1_1.length + x3_1.length + (x3_2.length + szR (tValueS x3_2)) + (x3_3.length + szR (tStrS x3_3)) + (x4.length + szR (tDirS x4)) := by simp [tVarDef, tType, tValue, encL_app, encL, encT, szL, szT]; try omega
  refine ⟨_, ?_, subz_SZ _ _⟩
  rw [es]
  refine ct_fn { n0 := 5, ex := [], tk := [] } Try.func42 rfl (by kernel_rfl) (by kernel_rfl) rfl ?_
  simp -implicitDefEqProofs [Try.f42, tVarDef, tType, tValue, encL_app, encL, encT, szL, szT]
  intro hn0
  unfold maxLen at hn0
  simp (disch := omega) only [wrap64]
  refine ⟨fun h => by unfold subz; rw [if_pos (by omega)], fun h0 => ?_⟩
  have es1 : szL (tType ⟨x1_0, x1_1⟩) = x1_0.length + x1_1.length := by simp [tType, encL_app, encL, encT, szL, szT]; try omega
  obtain ⟨r1, hc, hr1⟩ := c_szType ⟨x1_0, x1_1⟩ (l - x0.length) _ (by omega) (by omega)
  simp only [tType, encL_app, encL, encT, List.cons_append, List.nil_append, Md.ow_no, tStrS_len, tIntS_len] at hc
  refine callK_of hc ?_
  simp -implicitDefEqProofs
  unfold SZ at hr1
  refine ⟨fun h => by unfold subz; rw [if_pos (by omega)], fun h1 => ?_⟩
  have es3 : szL (tValue ⟨x3_0, x3_1, x3_2, x3_3⟩) = x3_1.length + (x3_2.length + szR (tValueS x3_2)) + (x3_3.length + szR (tStrS x3_3)) := by simp [tValue, encL_app, encL, encT, szL, szT]; try omega
  obtain ⟨r3, hc, hr3⟩ := c_szValue ⟨x3_0, x3_1, x3_2, x3_3⟩ r1 _ (by omega) (by omega)
  simp only [tValue, encL_app, encL, encT, List.cons_append, List.nil_append, Md.ow_no, tStrS_len, tIntS_len, tValueS_len] at hc
  refine callK_of hc ?_
  simp -implicitDefEqProofs
  unfold SZ at hr3
  refine ⟨fun h => by unfold subz; rw [if_pos (by omega)], fun h3 => ?_⟩
  obtain ⟨r4, hc, hr4⟩ := c_szDirS x4 r3 _ (by omega) (by omega)
  refine callK_of hc ?_
  simp -implicitDefEqProofs
  unfold SZ at hr4
  refine ⟨fun h => by unfold subz; rw [if_pos (by omega)], fun h4 => ?_⟩
  unfold subz; rw [if_neg (by omega)]; try omega
theorem c_szVarDefS (xs : List DVarDef) (l : Int) (K) (h1 : 0 ≤ l) (h2 : l ≤ 1048576) : ∃ r, Ct Try.prog 121 [.sl .no xs.length (encR .no (tVarDefS xs)), .int .i64 l] K (.int .i64 r) K ∧ SZ l (xs.length + szR (tVarDefS xs)) r := by
  refine ⟨_, ?_, subz_SZ _ _⟩
  refine ct_fn { n0 := 6, ex := [], tk := [] } Try.func121 rfl (by kernel_rfl) (by kernel_rfl) rfl ?_
  simp -implicitDefEqProofs [Try.f121]
  intro hn
  unfold maxLen at hn
  simp (disch := omega) only [wrap64]
  refine ⟨fun h => by unfold subz; rw [if_pos (by omega)], fun h => ?_⟩
  refine wC_loop (fun m s => ∃ i, i ≤ xs.length ∧ m = xs.length - i ∧ ((szR ((tVarDefS xs).take i) : Nat) : Int) ≤ l - xs.length ∧
    s = { env := [(0, .sl .no xs.length (encR .no (tVarDefS xs))), (1, .int .i64 (l - xs.length - szR ((tVarDefS xs).take i))), (4, .int .i64 0), (5, .int .i64 i)], loc := [], K := [] :: K }) xs.length _
    (St.le_of (by simp) (by simp [szR]) rfl rfl) ⟨0, by omega, rfl, by simp [szR]; omega, by simp [szR]⟩ ?_
  rintro m _ ⟨i, hi, rfl, hz, rfl⟩
  rcases Nat.lt_or_ge i xs.length with hlt | hge
  · obtain ⟨x, hx⟩ : ∃ x, xs[i]? = some x := ⟨_, List.getElem?_eq_getElem hlt⟩
    have ea := atVarDef (m := .no) hx
    have es := szR_get (tVarDefS_get hx)
    have el := szR_take_le (rs := tVarDefS xs) (i + 1)
    obtain ⟨r, hc, hr⟩ := c_szVarDef x (l - xs.length - szR ((tVarDefS xs).take i)) ([] :: K) (by omega) (by omega)
    unfold SZ at hr
    have hek := encL_len (m := .no) (r := tVarDef x)
    rw [tVarDef_len] at hek
    have htk : (encL .no (tVarDef x)).take 9 = encL .no (tVarDef x) := List.take_of_length_le (by omega)
    simp -implicitDefEqProofs [hlt, ea, hek, htk, encVarDefS_len]
    intro _
    refine callK_of hc ?_
    simp -implicitDefEqProofs
    unfold maxLen at *
    refine ⟨fun h3 => by unfold subz; rw [if_pos (by omega)], fun h3 => ?_⟩
    simp (disch := omega) only [wrap64]
    refine ⟨xs.length - (i + 1), by omega, _, St.le_of (by simp) ?_ rfl (by simp [St.trunc]), i + 1, by omega, rfl, by omega, rfl⟩
    have e3 : r = l - xs.length - (szR ((tVarDefS xs).take (i + 1)) : Nat) := by omega
    simp [St.trunc, look, mapV, mapC, e3]
  · have e : i = xs.length := by omega
    subst e
    simp -implicitDefEqProofs
    intro _
    have et : (tVarDefS xs).take xs.length = tVarDefS xs := List.take_of_length_le (by simp)
    rw [et] at hz ⊢
    unfold subz; rw [if_neg (by omega)]; try omega
theorem c_toVarDef (a : DVarDef) (K) (hs : szL (tVarDef a) ≤ 1048576) : Ct Try.prog 45 [.agg (encL .no (tVarDef a))] K (.agg (encL .ex (tVarDef a))) K := by
  obtain ⟨x0, ⟨x1_0, x1_1⟩, x2, ⟨x3_0, x3_1, x3_2, x3_3⟩, x4⟩ := a
  have es : szL (tVarDef ⟨x0, ⟨x1_0, x1_1⟩, x2, ⟨x3_0, x3_1, x3_2, x3_3⟩, x4⟩) = x0.length + x1_0.length + x1_1.length + x3_1.length + (x3_2.length + szR (tValueS x3_2)) + (x3_3.length + szR (tStrS x3_3)) + (x4.length + szR (tDirS x4)) := by simp [tVarDef, tType, tValue, encL_app, encL, encT, szL, szT]; try omega
  rw [es] at hs
  refine ct_fn { n0 := 4, ex := [], tk := [9, 16, 20, 22] } Try.func45 rfl (by kernel_rfl) (by kernel_rfl) rfl ?_
  simp -implicitDefEqProofs [Try.f45, tVarDef, tType, tValue, encL_app, encL, encT, szL, szT]
  have es1 : szL (tType ⟨x1_0, x1_1⟩) = x1_0.length + x1_1.length := by simp [tType, encL_app, encL, encT, szL, szT]; try omega
  have hc := fun K => c_toType ⟨x1_0, x1_1⟩ K (by omega)
  simp only [tType, encL_app, encL, encT, List.cons_append, List.nil_append, Md.ow_no, Md.ow_ex, tStrS_len, tIntS_len] at hc
  refine callK_of (hc _) ?_
  simp -implicitDefEqProofs
  have es3 : szL (tValue ⟨x3_0, x3_1, x3_2, x3_3⟩) = x3_1.length + (x3_2.length + szR (tValueS x3_2)) + (x3_3.length + szR (tStrS x3_3)) := by simp [tValue, encL_app, encL, encT, szL, szT]; try omega
  have hc := fun K => c_toValue ⟨x3_0, x3_1, x3_2, x3_3⟩ K (by omega)
  simp only [tValue, encL_app, encL, encT, List.cons_append, List.nil_append, Md.ow_no, Md.ow_ex, tStrS_len, tIntS_len, tValueS_len] at hc
  refine callK_of (hc _) ?_
  simp -implicitDefEqProofs
  refine callK_of (c_toDirS x4 _ (by omega)) ?_
  simp -implicitDefEqProofs
theorem c_toVarDefS (xs : List DVarDef) (K) (hs : xs.length + szR (tVarDefS xs) ≤ 1048576) : Ct Try.prog 123 [.sl .no xs.length (encR .no (tVarDefS xs))] K (.sl (.ex 80) xs.length (encR .ex (tVarDefS xs))) K := by
  refine ct_fn { n0 := 5, ex := [], tk := [7, 20, 22], kp := [7], es := true } Try.func123 rfl (by kernel_rfl) (by kernel_rfl) rfl ?_
  simp -implicitDefEqProofs [Try.f123]
  intro h1
  unfold maxLen at h1
  refine ⟨by unfold maxLen; omega, fun y => ?_⟩
  have e0 : (List.replicate xs.length ([.str [], .str [], .str [], .bool false, .int .i64 0, .str [], .sl .nil 0 [], .sl .nil 0 [], .sl .nil 0 []] : List AC)).flatten = filled .ex [.str [], .str [], .str [], .bool false, .int .i64 0, .str [], .sl .nil 0 [], .sl .nil 0 [], .sl .nil 0 []] (tVarDefS xs) 0 := by rw [filled_zero]; simp
  rw [e0]
  refine wC_for (fun i => { env := [(0, .sl .no xs.length (encR .no (tVarDefS xs))), (2, .sl .nil 0 []), (3, .nam y (.sl (.ex 80) xs.length (filled .ex [.str [], .str [], .str [], .bool false, .int .i64 0, .str [], .sl .nil 0 [], .sl .nil 0 [], .sl .nil 0 []] (tVarDefS xs) i))), (4, .int .i64 i)], loc := [], K := [] :: K }) xs.length (St.le_of (by simp) (by simp) rfl rfl) ?_
  intro i hi
  have efl := filled_len (m := .ex) (z := [.str [], .str [], .str [], .bool false, .int .i64 0, .str [], .sl .nil 0 [], .sl .nil 0 [], .sl .nil 0 []]) (i := i) (tVarDefS_rows (xs := xs)) rfl (by simpa using hi)
  rcases Nat.lt_or_ge i xs.length with hlt | hge
  · obtain ⟨x, hx⟩ : ∃ x, xs[i]? = some x := ⟨_, List.getElem?_eq_getElem hlt⟩
    have ea := atVarDef (m := .no) hx
    have ef := filled_next (m := .ex) (z := [.str [], .str [], .str [], .bool false, .int .i64 0, .str [], .sl .nil 0 [], .sl .nil 0 [], .sl .nil 0 []]) tVarDefS_rows rfl (tVarDefS_get hx)
    have es := szR_get (tVarDefS_get hx)
    have el := szR_take_le (rs := tVarDefS xs) (i + 1)
    have hc := fun K => c_toVarDef x K (by omega)
    have hek := encL_len (m := .no) (r := tVarDef x)
    have hek2 := encL_len (m := .ex) (r := tVarDef x)
    have hfl := flat_enc (m := .ex) (r := tVarDef x)
    rw [tVarDef_len] at hek hek2
    unfold putCells at ef
    rw [hek2] at ef
    have htk : (encL .no (tVarDef x)).take 9 = encL .no (tVarDef x) := List.take_of_length_le (by omega)
    simp -implicitDefEqProofs [hlt, ea, hek, htk, encVarDefS_len]
    intro _
    refine callK_of (hc _) ?_
    have hfl2 : (encL .ex (tVarDef x)).all flat = true := List.all_eq_true.2 hfl
    rw [tVarDefS_len] at efl
    simp -implicitDefEqProofs [hek2, efl, ef, hfl2, hlt]
    refine ⟨by omega, ?_⟩
    unfold maxLen at *
    simp (disch := omega) only [wrap64]
    exact for_next hlt (St.le_of (by simp) (by simp [St.trunc, look, mapV, mapC]) rfl (by simp [St.trunc]))
  · have e : i = xs.length := by omega
    subst e
    have eq : filled .ex [.str [], .str [], .str [], .bool false, .int .i64 0, .str [], .sl .nil 0 [], .sl .nil 0 [], .sl .nil 0 []] (tVarDefS xs) xs.length = encR .ex (tVarDefS xs) := by rw [← filled_all (z := ([.str [], .str [], .str [], .bool false, .int .i64 0, .str [], .sl .nil 0 [], .sl .nil 0 [], .sl .nil 0 []] : List AC))]; simp
    simp -implicitDefEqProofs [eq]
theorem c_eqVarDef (a b : DVarDef) (K) : Ct Try.prog 48 [.agg (encL .no (tVarDef a)), .agg (encL .no (tVarDef b))] K (.bool (eqB a b)) K := by
  obtain ⟨x0, ⟨x1_0, x1_1⟩, x2, ⟨x3_0, x3_1, x3_2, x3_3⟩, x4⟩ := a
  obtain ⟨y0, ⟨y1_0, y1_1⟩, y2, ⟨y3_0, y3_1, y3_2, y3_3⟩, y4⟩ := b
  refine ct_fn { n0 := 5, ex := [], tk := [] } Try.func48 rfl (by kernel_rfl) (by kernel_rfl) rfl ?_
  simp -implicitDefEqProofs [Try.f48, tVarDef, tType, tValue, encL_app, encL, encT, szL, szT]
  refine ⟨fun h => eqB_ne fun e => h (by cases e; rfl), fun h0 => ?_⟩
  have hc := fun K => c_eqType ⟨x1_0, x1_1⟩ ⟨y1_0, y1_1⟩ K
  simp only [tType, encL_app, encL, encT, List.cons_append, List.nil_append, Md.ow_no, tStrS_len, tIntS_len] at hc
  refine callK_of (hc _) ?_
  simp -implicitDefEqProofs
  refine ⟨fun h => eqB_ne fun e => (by cases e; rw [eqB_self] at h; cases h), fun h1 => ?_⟩
  rw [eqB_iff] at h1
  refine ⟨fun h => eqB_ne fun e => h (by cases e; rfl), fun h2 => ?_⟩
  have hc := fun K => c_eqValue ⟨x3_0, x3_1, x3_2, x3_3⟩ ⟨y3_0, y3_1, y3_2, y3_3⟩ K
  simp only [tValue, encL_app, encL, encT, List.cons_append, List.nil_append, Md.ow_no, tStrS_len, tIntS_len, tValueS_len] at hc
  refine callK_of (hc _) ?_
  simp -implicitDefEqProofs
  refine ⟨fun h => eqB_ne fun e => (by cases e; rw [eqB_self] at h; cases h), fun h3 => ?_⟩
  rw [eqB_iff] at h3
  refine callK_of (c_eqDirS x4 y4 _) ?_
  simp -implicitDefEqProofs
  refine ⟨fun h => eqB_ne fun e => (by cases e; rw [eqB_self] at h; cases h), fun h4 => ?_⟩
  rw [eqB_iff] at h4
  rw [eqB_iff]
  try cases h0
  try cases h1
  try cases h2
  try cases h3
  try cases h4
  rfl
theorem c_eqVarDefS (xs ys : List DVarDef) (K) : Ct Try.prog 125 [.sl .no xs.length (encR .no (tVarDefS xs)), .sl .no ys.length (encR .no (tVarDefS ys))] K (.bool (eqB xs ys)) K := by
  refine ct_fn { n0 := 6, ex := [], tk := [] } Try.func125 rfl (by kernel_rfl) (by kernel_rfl) rfl ?_
  simp -implicitDefEqProofs [Try.f125]
  intro h1 h2
  refine ⟨fun h => eqB_ne fun e => h (by rw [e]), fun hlen => ?_⟩
  refine wC_loop (fun m s => ∃ i, i ≤ xs.length ∧ m = xs.length - i ∧ xs.take i = ys.take i ∧
    s = { env := [(0, .sl .no xs.length (encR .no (tVarDefS xs))), (1, .sl .no ys.length (encR .no (tVarDefS ys))), (4, .bool false), (5, .int .i64 i)], loc := [], K := [] :: K }) xs.length _
    (St.le_of (by simp) (by simp) rfl rfl) ⟨0, by omega, rfl, by simp, rfl⟩ ?_
  rintro m _ ⟨i, hi, rfl, hz, rfl⟩
  rcases Nat.lt_or_ge i xs.length with hlt | hge
  · obtain ⟨x, hx⟩ : ∃ x, xs[i]? = some x := ⟨_, List.getElem?_eq_getElem hlt⟩
    obtain ⟨z, hz2⟩ : ∃ x, ys[i]? = some x := ⟨_, List.getElem?_eq_getElem (by omega)⟩
    have ea := atVarDef (m := .no) hx
    have eb := atVarDef (m := .no) hz2
    have hek := encL_len (m := .no) (r := tVarDef x)
    have hek2 := encL_len (m := .no) (r := tVarDef z)
    rw [tVarDef_len] at hek hek2
    have hc := fun K => c_eqVarDef x z K
    have htk : (encL .no (tVarDef x)).take 9 = encL .no (tVarDef x) := List.take_of_length_le (by omega)
    have htk2 : (encL .no (tVarDef z)).take 9 = encL .no (tVarDef z) := List.take_of_length_le (by omega)
    simp -implicitDefEqProofs [hlt, ea, eb, hek, hek2, htk, htk2, encVarDefS_len]
    intro _
    refine wRun_draw true rfl (by decide +kernel) ?_
    simp -implicitDefEqProofs [hlt, ea, eb, hek, hek2, htk, htk2, encVarDefS_len]
    refine ⟨by omega, ?_⟩
    refine callK_of (hc _) ?_
    simp -implicitDefEqProofs
    refine ⟨fun h3 => eqB_ne fun e => (by rw [e, hz2] at hx; cases hx; rw [eqB_self] at h3; cases h3), fun h3 => ?_⟩
    rw [eqB_iff] at h3
    subst h3
    unfold maxLen at *
    simp (disch := omega) only [wrap64]
    refine ⟨xs.length - (i + 1), by omega, _, St.le_of (by simp) ?_ rfl (by simp [St.trunc]), i + 1, by omega, rfl, ?_, rfl⟩
    · simp [St.trunc, look, mapV, mapC]
    · rw [List.take_add_one, List.take_add_one, hz, hx, hz2]
  · have e : i = xs.length := by omega
    subst e
    simp -implicitDefEqProofs
    intro _
    refine (eqB_iff.2 ?_)
    rw [List.take_of_length_le (by omega), List.take_of_length_le (by omega)] at hz
    exact hz
theorem c_szOp (a : DOp) (l : Int) (K) (h1 : 0 ≤ l) (h2 : l ≤ 1048576) : ∃ r, Ct Try.prog 63 [.agg (encL .no (tOp a)), .int .i64 l] K (.int .i64 r) K ∧ SZ l (szL (tOp a)) r := by
  obtain ⟨x0, x1, x2, x3, x4⟩ := a
  have es : szL (tOp ⟨x0, x1, x2, x3, x4⟩) = x1.length + (x2.length + szR (tVarDefS x2)) + (x3.length + szR (tDirS x3)) + (x4.length + szR (tSelS x4)) := by simp [tOp, encL_app, encL, encT, szL, szT]; try omega
  refine ⟨_, ?_, subz_SZ _ _⟩
  rw [es]
  refine ct_fn { n0 := 5, ex := [], tk := [] } Try.func63 rfl (by kernel_rfl) (by kernel_rfl) rfl ?_
  simp -implicitDefEqProofs [Try.f63, tOp, encL_app, encL, encT, szL, szT]
  intro hn1
  unfold maxLen at hn1
  simp (disch := omega) only [wrap64]
  refine ⟨fun h => by unfold subz; rw [if_pos (by omega)], fun h1 => ?_⟩
  obtain ⟨r2, hc, hr2⟩ := c_szVarDefS x2 (l - x1.length) _ (by omega) (by omega)
  refine callK_of hc ?_
  simp -implicitDefEqProofs
  unfold SZ at hr2
  refine ⟨fun h => by unfold subz; rw [if_pos (by omega)], fun h2 => ?_⟩
  obtain ⟨r3, hc, hr3⟩ := c_szDirS x3 r2 _ (by omega) (by omega)
  refine callK_of hc ?_
  simp -implicitDefEqProofs
  unfold SZ at hr3
  refine ⟨fun h => by unfold subz; rw [if_pos (by omega)], fun h3 => ?_⟩
  obtain ⟨r4, hc, hr4⟩ := c_szSelS x4 r3 _ (by omega) (by omega)
  refine callK_of hc ?_
  simp -implicitDefEqProofs
  unfold SZ at hr4
  refine ⟨fun h => by unfold subz; rw [if_pos (by omega)], fun h4 => ?_⟩
  unfold subz; rw [if_neg (by omega)]; try omega
theorem c_toOp (a : DOp) (K) (hs : szL (tOp a) ≤ 1048576) : Ct Try.prog 65 [.agg (encL .no (tOp a))] K (.agg (encL .ex (tOp a))) K := by
  obtain ⟨x0, x1, x2, x3, x4⟩ := a
  have es : szL (tOp ⟨x0, x1, x2, x3, x4⟩) = x1.length + (x2.length + szR (tVarDefS x2)) + (x3.length + szR (tDirS x3)) + (x4.length + szR (tSelS x4)) := by simp [tOp, encL_app, encL, encT, szL, szT]; try omega
  rw [es] at hs
  refine ct_fn { n0 := 4, ex := [], tk := [12, 16, 20, 22] } Try.func65 rfl (by kernel_rfl) (by kernel_rfl) rfl ?_
  simp -implicitDefEqProofs [Try.f65, tOp, encL_app, encL, encT, szL, szT]
  refine callK_of (c_toVarDefS x2 _ (by omega)) ?_
  simp -implicitDefEqProofs
  refine callK_of (c_toDirS x3 _ (by omega)) ?_
  simp -implicitDefEqProofs
  refine callK_of (c_toSelS x4 _ (by omega)) ?_
  simp -implicitDefEqProofs
theorem c_eqOp (a b : DOp) (K) : Ct Try.prog 67 [.agg (encL .no (tOp a)), .agg (encL .no (tOp b))] K (.bool (eqB a b)) K := by
  obtain ⟨x0, x1, x2, x3, x4⟩ := a
  obtain ⟨y0, y1, y2, y3, y4⟩ := b
  refine ct_fn { n0 := 5, ex := [], tk := [] } Try.func67 rfl (by kernel_rfl) (by kernel_rfl) rfl ?_
  simp -implicitDefEqProofs [Try.f67, tOp, encL_app, encL, encT, szL, szT]
  refine ⟨fun h => eqB_ne fun e => h (by cases e; rfl), fun h0 => ?_⟩
  refine ⟨fun h => eqB_ne fun e => h (by cases e; rfl), fun h1 => ?_⟩
  refine callK_of (c_eqVarDefS x2 y2 _) ?_
  simp -implicitDefEqProofs
  refine ⟨fun h => eqB_ne fun e => (by cases e; rw [eqB_self] at h; cases h), fun h2 => ?_⟩
  rw [eqB_iff] at h2
  refine callK_of (c_eqDirS x3 y3 _) ?_
  simp -implicitDefEqProofs
  refine ⟨fun h => eqB_ne fun e => (by cases e; rw [eqB_self] at h; cases h), fun h3 => ?_⟩
  rw [eqB_iff] at h3
  refine callK_of (c_eqSelS x4 y4 _) ?_
  simp -implicitDefEqProofs
  refine ⟨fun h => eqB_ne fun e => (by cases e; rw [eqB_self] at h; cases h), fun h4 => ?_⟩
  rw [eqB_iff] at h4
  rw [eqB_iff]
  try cases h0
  try cases h1
  try cases h2
  try cases h3
  try cases h4
  rfl
theorem c_szFrag (a : DFrag) (l : Int) (K) (h1 : 0 ≤ l) (h2 : l ≤ 1048576) : ∃ r, Ct Try.prog 90 [.agg (encL .no (tFrag a)), .int .i64 l] K (.int .i64 r) K ∧ SZ l (szL (tFrag a)) r := by
  obtain ⟨x0, x1, x2, x3⟩ := a
  have es : szL (tFrag ⟨x0, x1, x2, x3⟩) = x0.length + x1.length + (x2.length + szR (tDirS x2)) + (x3.length + szR (tSelS x3)) := by simp [tFrag, encL_app, encL, encT, szL, szT]; try omega
  refine ⟨_, ?_, subz_SZ _ _⟩
  rw [es]
  refine ct_fn { n0 := 5, ex := [], tk := [] } Try.func90 rfl (by kernel_rfl) (by kernel_rfl) rfl ?_
  simp -implicitDefEqProofs [Try.f90, tFrag, encL_app, encL, encT, szL, szT]
  intro hn0
  unfold maxLen at hn0
  simp (disch := omega) only [wrap64]
  refine ⟨fun h => by unfold subz; rw [if_pos (by omega)], fun h0 => ?_⟩
  intro hn1
  unfold maxLen at hn1
  simp (disch := omega) only [wrap64]
  refine ⟨fun h => by unfold subz; rw [if_pos (by omega)], fun h1 => ?_⟩
  obtain ⟨r2, hc, hr2⟩ := c_szDirS x2 ((l - x0.length) - x1.length) _ (by omega) (by omega)
  refine callK_of hc ?_
  simp -implicitDefEqProofs
  unfold SZ at hr2
  refine ⟨fun h => by unfold subz; rw [if_pos (by omega)], fun h2 => ?_⟩
  obtain ⟨r3, hc, hr3⟩ := c_szSelS x3 r2 _ (by omega) (by omega)
  refine callK_of hc ?_
  simp -implicitDefEqProofs
  unfold SZ at hr3
  refine ⟨fun h => by unfold subz; rw [if_pos (by omega)], fun h3 => ?_⟩
  unfold subz; rw [if_neg (by omega)]; try omega
theorem c_szFragS (xs : List DFrag) (l : Int) (K) (h1 : 0 ≤ l) (h2 : l ≤ 1048576) : ∃ r, Ct Try.prog 37 [.sl .no xs.length (encR .no (tFragS xs)), .int .i64 l] K (.int .i64 r) K ∧ SZ l (xs.length + szR (tFragS xs)) r := by
  refine ⟨_, ?_, subz_SZ _ _⟩
  refine ct_fn { n0 := 6, ex := [], tk := [] } Try.func37 rfl (by kernel_rfl) (by kernel_rfl) rfl ?_
  simp -implicitDefEqProofs [Try.f37]
  intro hn
  unfold maxLen at hn
  simp (disch := omega) only [wrap64]
  refine ⟨fun h => by unfold subz; rw [if_pos (by omega)], fun h => ?_⟩
  refine wC_loop (fun m s => ∃ i, i ≤ xs.length ∧ m = xs.length - i ∧ ((szR ((tFragS xs).take i) : Nat) : Int) ≤ l - xs.length ∧
    s = { env := [(0, .sl .no xs.length (encR .no (tFragS xs))), (1, .int .i64 (l - xs.length - szR ((tFragS xs).take i))), (4, .int .i64 0), (5, .int .i64 i)], loc := [], K := [] :: K }) xs.length _
    (St.le_of (by simp) (by simp [szR]) rfl rfl) ⟨0, by omega, rfl, by simp [szR]; omega, by simp [szR]⟩ ?_
  rintro m _ ⟨i, hi, rfl, hz, rfl⟩
  rcases Nat.lt_or_ge i xs.length with hlt | hge
  · obtain ⟨x, hx⟩ : ∃ x, xs[i]? = some x := ⟨_, List.getElem?_eq_getElem hlt⟩
    have ea := atFrag (m := .no) hx
    have es := szR_get (tFragS_get hx)
    have el := szR_take_le (rs := tFragS xs) (i + 1)
    obtain ⟨r, hc, hr⟩ := c_szFrag x (l - xs.length - szR ((tFragS xs).take i)) ([] :: K) (by omega) (by omega)
    unfold SZ at hr
    have hek := encL_len (m := .no) (r := tFrag x)
    rw [tFrag_len] at hek
    have htk : (encL .no (tFrag x)).take 4 = encL .no (tFrag x) := List.take_of_length_le (by omega)
    simp -implicitDefEqProofs [hlt, ea, hek, htk, encFragS_len]
    intro _
    refine callK_of hc ?_
    simp -implicitDefEqProofs
    unfold maxLen at *
    refine ⟨fun h3 => by unfold subz; rw [if_pos (by omega)], fun h3 => ?_⟩
    simp (disch := omega) only [wrap64]
    refine ⟨xs.length - (i + 1), by omega, _, St.le_of (by simp) ?_ rfl (by simp [St.trunc]), i + 1, by omega, rfl, by omega, rfl⟩
    have e3 : r = l - xs.length - (szR ((tFragS xs).take (i + 1)) : Nat) := by omega
    simp [St.trunc, look, mapV, mapC, e3]
  · have e : i = xs.length := by omega
    subst e
    simp -implicitDefEqProofs
    intro _
    have et : (tFragS xs).take xs.length = tFragS xs := List.take_of_length_le (by simp)
    rw [et] at hz ⊢
    unfold subz; rw [if_neg (by omega)]; try omega
theorem c_toFrag (a : DFrag) (K) (hs : szL (tFrag a) ≤ 1048576) : Ct Try.prog 91 [.agg (encL .no (tFrag a))] K (.agg (encL .ex (tFrag a))) K := by
  obtain ⟨x0, x1, x2, x3⟩ := a
  have es : szL (tFrag ⟨x0, x1, x2, x3⟩) = x0.length + x1.length + (x2.length + szR (tDirS x2)) + (x3.length + szR (tSelS x3)) := by simp [tFrag, encL_app, encL, encT, szL, szT]; try omega
  rw [es] at hs
  refine ct_fn { n0 := 4, ex := [], tk := [12, 16, 18] } Try.func91 rfl (by kernel_rfl) (by kernel_rfl) rfl ?_
  simp -implicitDefEqProofs [Try.f91, tFrag, encL_app, encL, encT, szL, szT]
  refine callK_of (c_toDirS x2 _ (by omega)) ?_
  simp -implicitDefEqProofs
  refine callK_of (c_toSelS x3 _ (by omega)) ?_
  simp -implicitDefEqProofs
theorem c_toFragS (xs : List DFrag) (K) (hs : xs.length + szR (tFragS xs) ≤ 1048576) : Ct Try.prog 39 [.sl .no xs.length (encR .no (tFragS xs))] K (.sl (.ex 152) xs.length (encR .ex (tFragS xs))) K := by
  refine ct_fn { n0 := 5, ex := [], tk := [7, 20, 22], kp := [7], es := true } Try.func39 rfl (by kernel_rfl) (by kernel_rfl) rfl ?_
  simp -implicitDefEqProofs [Try.f39]
  intro h1
  unfold maxLen at h1
  refine ⟨by unfold maxLen; omega, fun y => ?_⟩
  have e0 : (List.replicate xs.length ([.str [], .str [], .sl .nil 0 [], .sl .nil 0 []] : List AC)).flatten = filled .ex [.str [], .str [], .sl .nil 0 [], .sl .nil 0 []] (tFragS xs) 0 := by rw [filled_zero]; simp
  rw [e0]
  refine wC_for (fun i => { env := [(0, .sl .no xs.length (encR .no (tFragS xs))), (2, .sl .nil 0 []), (3, .nam y (.sl (.ex 152) xs.length (filled .ex [.str [], .str [], .sl .nil 0 [], .sl .nil 0 []] (tFragS xs) i))), (4, .int .i64 i)], loc := [], K := [] :: K }) xs.length (St.le_of (by simp) (by simp) rfl rfl) ?_
  intro i hi
  have efl := filled_len (m := .ex) (z := [.str [], .str [], .sl .nil 0 [], .sl .nil 0 []]) (i := i) (tFragS_rows (xs := xs)) rfl (by simpa using hi)
  rcases Nat.lt_or_ge i xs.length with hlt | hge
  · obtain ⟨x, hx⟩ : ∃ x, xs[i]? = some x := ⟨_, List.getElem?_eq_getElem hlt⟩
    have ea := atFrag (m := .no) hx
    have ef := filled_next (m := .ex) (z := [.str [], .str [], .sl .nil 0 [], .sl .nil 0 []]) tFragS_rows rfl (tFragS_get hx)
    have es := szR_get (tFragS_get hx)
    have el := szR_take_le (rs := tFragS xs) (i + 1)
    have hc := fun K => c_toFrag x K (by omega)
    have hek := encL_len (m := .no) (r := tFrag x)
    have hek2 := encL_len (m := .ex) (r := tFrag x)
    have hfl := flat_enc (m := .ex) (r := tFrag x)
    rw [tFrag_len] at hek hek2
    unfold putCells at ef
    rw [hek2] at ef
    have htk : (encL .no (tFrag x)).take 4 = encL .no (tFrag x) := List.take_of_length_le (by omega)
    simp -implicitDefEqProofs [hlt, ea, hek, htk, encFragS_len]
    intro _
    refine callK_of (hc _) ?_
    have hfl2 : (encL .ex (tFrag x)).all flat = true := List.all_eq_true.2 hfl
    rw [tFragS_len] at efl
    simp -implicitDefEqProofs [hek2, efl, ef, hfl2, hlt]
    refine ⟨by omega, ?_⟩
    unfold maxLen at *
    simp (disch := omega) only [wrap64]
    exact for_next hlt (St.le_of (by simp) (by simp [St.trunc, look, mapV, mapC]) rfl (by simp [St.trunc]))
  · have e : i = xs.length := by omega
    subst e
    have eq : filled .ex [.str [], .str [], .sl .nil 0 [], .sl .nil 0 []] (tFragS xs) xs.length = encR .ex (tFragS xs) := by rw [← filled_all (z := ([.str [], .str [], .sl .nil 0 [], .sl .nil 0 []] : List AC))]; simp
    simp -implicitDefEqProofs [eq]
theorem c_eqFrag (a b : DFrag) (K) : Ct Try.prog 94 [.agg (encL .no (tFrag a)), .agg (encL .no (tFrag b))] K (.bool (eqB a b)) K := by
  obtain ⟨x0, x1, x2, x3⟩ := a
  obtain ⟨y0, y1, y2, y3⟩ := b
  refine ct_fn { n0 := 5, ex := [], tk := [] } Try.func94 rfl (by kernel_rfl) (by kernel_rfl) rfl ?_
  simp -implicitDefEqProofs [Try.f94, tFrag, encL_app, encL, encT, szL, szT]
  refine ⟨fun h => eqB_ne fun e => h (by cases e; rfl), fun h0 => ?_⟩
  refine ⟨fun h => eqB_ne fun e => h (by cases e; rfl), fun h1 => ?_⟩
  refine callK_of (c_eqDirS x2 y2 _) ?_
  simp -implicitDefEqProofs
  refine ⟨fun h => eqB_ne fun e => (by cases e; rw [eqB_self] at h; cases h), fun h2 => ?_⟩
  rw [eqB_iff] at h2
  refine callK_of (c_eqSelS x3 y3 _) ?_
  simp -implicitDefEqProofs
  refine ⟨fun h => eqB_ne fun e => (by cases e; rw [eqB_self] at h; cases h), fun h3 => ?_⟩
  rw [eqB_iff] at h3
  rw [eqB_iff]
  try cases h0
  try cases h1
  try cases h2
  try cases h3
  rfl
theorem c_eqFragS (xs ys : List DFrag) (K) : Ct Try.prog 41 [.sl .no xs.length (encR .no (tFragS xs)), .sl .no ys.length (encR .no (tFragS ys))] K (.bool (eqB xs ys)) K := by
  refine ct_fn { n0 := 6, ex := [], tk := [] } Try.func41 rfl (by kernel_rfl) (by kernel_rfl) rfl ?_
  simp -implicitDefEqProofs [Try.f41]
  intro h1 h2
  refine ⟨fun h => eqB_ne fun e => h (by rw [e]), fun hlen => ?_⟩
  refine wC_loop (fun m s => ∃ i, i ≤ xs.length ∧ m = xs.length - i ∧ xs.take i = ys.take i ∧
    s = { env := [(0, .sl .no xs.length (encR .no (tFragS xs))), (1, .sl .no ys.length (encR .no (tFragS ys))), (4, .bool false), (5, .int .i64 i)], loc := [], K := [] :: K }) xs.length _
    (St.le_of (by simp) (by simp) rfl rfl) ⟨0, by omega, rfl, by simp, rfl⟩ ?_
  rintro m _ ⟨i, hi, rfl, hz, rfl⟩
  rcases Nat.lt_or_ge i xs.length with hlt | hge
  · obtain ⟨x, hx⟩ : ∃ x, xs[i]? = some x := ⟨_, List.getElem?_eq_getElem hlt⟩
    obtain ⟨z, hz2⟩ : ∃ x, ys[i]? = some x := ⟨_, List.getElem?_eq_getElem (by omega)⟩
    have ea := atFrag (m := .no) hx
    have eb := atFrag (m := .no) hz2
    have hek := encL_len (m := .no) (r := tFrag x)
    have hek2 := encL_len (m := .no) (r := tFrag z)
    rw [tFrag_len] at hek hek2
    have hc := fun K => c_eqFrag x z K
    have htk : (encL .no (tFrag x)).take 4 = encL .no (tFrag x) := List.take_of_length_le (by omega)
    have htk2 : (encL .no (tFrag z)).take 4 = encL .no (tFrag z) := List.take_of_length_le (by omega)
    simp -implicitDefEqProofs [hlt, ea, eb, hek, hek2, htk, htk2, encFragS_len]
    intro _
    refine wRun_draw true rfl (by decide +kernel) ?_
    simp -implicitDefEqProofs [hlt, ea, eb, hek, hek2, htk, htk2, encFragS_len]
    refine ⟨by omega, ?_⟩
    refine callK_of (hc _) ?_
    simp -implicitDefEqProofs
    refine ⟨fun h3 => eqB_ne fun e => (by rw [e, hz2] at hx; cases hx; rw [eqB_self] at h3; cases h3), fun h3 => ?_⟩
    rw [eqB_iff] at h3
    subst h3
    unfold maxLen at *
    simp (disch := omega) only [wrap64]
    refine ⟨xs.length - (i + 1), by omega, _, St.le_of (by simp) ?_ rfl (by simp [St.trunc]), i + 1, by omega, rfl, ?_, rfl⟩
    · simp [St.trunc, look, mapV, mapC]
    · rw [List.take_add_one, List.take_add_one, hz, hx, hz2]
  · have e : i = xs.length := by omega
    subst e
    simp -implicitDefEqProofs
    intro _
    refine (eqB_iff.2 ?_)
    rw [List.take_of_length_le (by omega), List.take_of_length_le (by omega)] at hz
    exact hz
theorem c_szInDef (a : DInDef) (l : Int) (K) (h1 : 0 ≤ l) (h2 : l ≤ 1048576) : ∃ r, Ct Try.prog 186 [.agg (encL .no (tInDef a)), .int .i64 l] K (.int .i64 r) K ∧ SZ l (szL (tInDef a)) r := by
  obtain ⟨x0, x1, ⟨x2_0, x2_1⟩, x3, ⟨x4_0, x4_1, x4_2, x4_3⟩, x5⟩ := a
  have es : szL (tInDef ⟨x0, x1, ⟨x2_0, x2_1⟩, x3, ⟨x4_0, x4_1, x4_2, x4_3⟩, x5⟩) = x0.length + x1.length + x2_0.length + x2_1.length + x4_1.length + (x4_2.length + szR (tValueS x4_2)) + (x4_3.length + szR (tStrS x4_3)) + (x5.length + szR (tDirS x5)) := by simp [tInDef, tType, tValue, encL_app, encL, encT, szL, szT]; try omega
  refine ⟨_, ?_, subz_SZ _ _⟩
  rw [es]
  refine ct_fn { n0 := 5, ex := [], tk := [] } Try.func186 rfl (by kernel_rfl) (by kernel_rfl) rfl ?_
  simp -implicitDefEqProofs [Try.f186, tInDef, tType, tValue, encL_app, encL, encT, szL, szT]
  intro hn0
  unfold maxLen at hn0
  simp (disch := omega) only [wrap64]
  refine ⟨fun h => by unfold subz; rw [if_pos (by omega)], fun h0 => ?_⟩
  intro hn1
  unfold maxLen at hn1
  simp (disch := omega) only [wrap64]
  refine ⟨fun h => by unfold subz; rw [if_pos (by omega)], fun h1 => ?_⟩
  have es2 : szL (tType ⟨x2_0, x2_1⟩) = x2_0.length + x2_1.length := by simp [tType, encL_app, encL, encT, szL, szT]; try omega
  obtain ⟨r2, hc, hr2⟩ := c_szType ⟨x2_0, x2_1⟩ ((l - x0.length) - x1.length) _ (by omega) (by omega)
  simp only [tType, encL_app, encL, encT, List.cons_append, List.nil_append, Md.ow_no, tStrS_len, tIntS_len] at hc
  refine callK_of hc ?_
  simp -implicitDefEqProofs
  unfold SZ at hr2
  refine ⟨fun h => by unfold subz; rw [if_pos (by omega)], fun h2 => ?_⟩
  have es4 : szL (tValue ⟨x4_0, x4_1, x4_2, x4_3⟩) = x4_1.length + (x4_2.length + szR (tValueS x4_2)) + (x4_3.length + szR (tStrS x4_3)) := by simp [tValue, encL_app, encL, encT, szL, szT]; try omega
  obtain ⟨r4, hc, hr4⟩ := c_szValue ⟨x4_0, x4_1, x4_2, x4_3⟩ r2 _ (by omega) (by omega)
  simp only [tValue, encL_app, encL, encT, List.cons_append, List.nil_append, Md.ow_no, tStrS_len, tIntS_len, tValueS_len] at hc
  refine callK_of hc ?_
  simp -implicitDefEqProofs
  unfold SZ at hr4
  refine ⟨fun h => by unfold subz; rw [if_pos (by omega)], fun h4 => ?_⟩
  obtain ⟨r5, hc, hr5⟩ := c_szDirS x5 r4 _ (by omega) (by omega)
  refine callK_of hc ?_
  simp -implicitDefEqProofs
  unfold SZ at hr5
  refine ⟨fun h => by unfold subz; rw [if_pos (by omega)], fun h5 => ?_⟩
  unfold subz; rw [if_neg (by omega)]; try omega
theorem c_szInDefS (xs : List DInDef) (l : Int) (K) (h1 : 0 ≤ l) (h2 : l ≤ 1048576) : ∃ r, Ct Try.prog 160 [.sl .no xs.length (encR .no (tInDefS xs)), .int .i64 l] K (.int .i64 r) K ∧ SZ l (xs.length + szR (tInDefS xs)) r := by
  refine ⟨_, ?_, subz_SZ _ _⟩
  refine ct_fn { n0 := 6, ex := [], tk := [] } Try.func160 rfl (by kernel_rfl) (by kernel_rfl) rfl ?_
  simp -implicitDefEqProofs [Try.f160]
  intro hn
  unfold maxLen at hn
  simp (disch := omega) only [wrap64]
  refine ⟨fun h => by unfold subz; rw [if_pos (by omega)], fun h => ?_⟩
  refine wC_loop (fun m s => ∃ i, i ≤ xs.length ∧ m = xs.length - i ∧ ((szR ((tInDefS xs).take i) : Nat) : Int) ≤ l - xs.length ∧
    s = { env := [(0, .sl .no xs.length (encR .no (tInDefS xs))), (1, .int .i64 (l - xs.length - szR ((tInDefS xs).take i))), (4, .int .i64 0), (5, .int .i64 i)], loc := [], K := [] :: K }) xs.length _
    (St.le_of (by simp) (by simp [szR]) rfl rfl) ⟨0, by omega, rfl, by simp [szR]; omega, by simp [szR]⟩ ?_
  rintro m _ ⟨i, hi, rfl, hz, rfl⟩
  rcases Nat.lt_or_ge i xs.length with hlt | hge
  · obtain ⟨x, hx⟩ : ∃ x, xs[i]? = some x := ⟨_, List.getElem?_eq_getElem hlt⟩
    have ea := atInDef (m := .no) hx
    have es := szR_get (tInDefS_get hx)
    have el := szR_take_le (rs := tInDefS xs) (i + 1)
    obtain ⟨r, hc, hr⟩ := c_szInDef x (l - xs.length - szR ((tInDefS xs).take i)) ([] :: K) (by omega) (by omega)
    unfold SZ at hr
    have hek := encL_len (m := .no) (r := tInDef x)
    rw [tInDef_len] at hek
    have htk : (encL .no (tInDef x)).take 10 = encL .no (tInDef x) := List.take_of_length_le (by omega)
    simp -implicitDefEqProofs [hlt, ea, hek, htk, encInDefS_len]
    intro _
    refine callK_of hc ?_
    simp -implicitDefEqProofs
    unfold maxLen at *
    refine ⟨fun h3 => by unfold subz; rw [if_pos (by omega)], fun h3 => ?_⟩
    simp (disch := omega) only [wrap64]
    refine ⟨xs.length - (i + 1), by omega, _, St.le_of (by simp) ?_ rfl (by simp [St.trunc]), i + 1, by omega, rfl, by omega, rfl⟩
    have e3 : r = l - xs.length - (szR ((tInDefS xs).take (i + 1)) : Nat) := by omega
    simp [St.trunc, look, mapV, mapC, e3]
  · have e : i = xs.length := by omega
    subst e
    simp -implicitDefEqProofs
    intro _
    have et : (tInDefS xs).take xs.length = tInDefS xs := List.take_of_length_le (by simp)
    rw [et] at hz ⊢
    unfold subz; rw [if_neg (by omega)]; try omega
theorem c_toInDef (a : DInDef) (K) (hs : szL (tInDef a) ≤ 1048576) : Ct Try.prog 189 [.agg (encL .no (tInDef a))] K (.agg (encL .ex (tInDef a))) K := by
  obtain ⟨x0, x1, ⟨x2_0, x2_1⟩, x3, ⟨x4_0, x4_1, x4_2, x4_3⟩, x5⟩ := a
  have es : szL (tInDef ⟨x0, x1, ⟨x2_0, x2_1⟩, x3, ⟨x4_0, x4_1, x4_2, x4_3⟩, x5⟩) = x0.length + x1.length + x2_0.length + x2_1.length + x4_1.length + (x4_2.length + szR (tValueS x4_2)) + (x4_3.length + szR (tStrS x4_3)) + (x5.length + szR (tDirS x5)) := by simp [tInDef, tType, tValue, encL_app, encL, encT, szL, szT]; try omega
  rw [es] at hs
  refine ct_fn { n0 := 4, ex := [], tk := [12, 19, 23, 25] } Try.func189 rfl (by kernel_rfl) (by kernel_rfl) rfl ?_
  simp -implicitDefEqProofs [Try.f189, tInDef, tType, tValue, encL_app, encL, encT, szL, szT]
  have es2 : szL (tType ⟨x2_0, x2_1⟩) = x2_0.length + x2_1.length := by simp [tType, encL_app, encL, encT, szL, szT]; try omega
  have hc := fun K => c_toType ⟨x2_0, x2_1⟩ K (by omega)
  simp only [tType, encL_app, encL, encT, List.cons_append, List.nil_append, Md.ow_no, Md.ow_ex, tStrS_len, tIntS_len] at hc
  refine callK_of (hc _) ?_
  simp -implicitDefEqProofs
  have es4 : szL (tValue ⟨x4_0, x4_1, x4_2, x4_3⟩) = x4_1.length + (x4_2.length + szR (tValueS x4_2)) + (x4_3.length + szR (tStrS x4_3)) := by simp [tValue, encL_app, encL, encT, szL, szT]; try omega
  have hc := fun K => c_toValue ⟨x4_0, x4_1, x4_2, x4_3⟩ K (by omega)
  simp only [tValue, encL_app, encL, encT, List.cons_append, List.nil_append, Md.ow_no, Md.ow_ex, tStrS_len, tIntS_len, tValueS_len] at hc
  refine callK_of (hc _) ?_
  simp -implicitDefEqProofs
  refine callK_of (c_toDirS x5 _ (by omega)) ?_
  simp -implicitDefEqProofs
theorem c_toInDefS (xs : List DInDef) (K) (hs : xs.length + szR (tInDefS xs) ≤ 1048576) : Ct Try.prog 165 [.sl .no xs.length (encR .no (tInDefS xs))] K (.sl (.ex 259) xs.length (encR .ex (tInDefS xs))) K := by
  refine ct_fn { n0 := 5, ex := [], tk := [7, 20, 22], kp := [7], es := true } Try.func165 rfl (by kernel_rfl) (by kernel_rfl) rfl ?_
  simp -implicitDefEqProofs [Try.f165]
  intro h1
  unfold maxLen at h1
  refine ⟨by unfold maxLen; omega, fun y => ?_⟩
  have e0 : (List.replicate xs.length ([.str [], .str [], .str [], .str [], .bool false, .int .i64 0, .str [], .sl .nil 0 [], .sl .nil 0 [], .sl .nil 0 []] : List AC)).flatten = filled .ex [.str [], .str [], .str [], .str [], .bool false, .int .i64 0, .str [], .sl .nil 0 [], .sl .nil 0 [], .sl .nil 0 []] (tInDefS xs) 0 := by rw [filled_zero]; simp
  rw [e0]
  refine wC_for (fun i => { env := [(0, .sl .no xs.length (encR .no (tInDefS xs))), (2, .sl .nil 0 []), (3, .nam y (.sl (.ex 259) xs.length (filled .ex [.str [], .str [], .str [], .str [], .bool false, .int .i64 0, .str [], .sl .nil 0 [], .sl .nil 0 [], .sl .nil 0 []] (tInDefS xs) i))), (4, .int .i64 i)], loc := [], K := [] :: K }) xs.length (St.le_of (by simp) (by simp) rfl rfl) ?_
  intro i hi
  have efl := filled_len (m := .ex) (z := [.str [], .str [], .str [], .str [], .bool false, .int .i64 0, .str [], .sl .nil 0 [], .sl .nil 0 [], .sl .nil 0 []]) (i := i) (tInDefS_rows (xs := xs)) rfl (by simpa using hi)
  rcases Nat.lt_or_ge i xs.length with hlt | hge
  · obtain ⟨x, hx⟩ : ∃ x, xs[i]? = some x := ⟨_, List.getElem?_eq_getElem hlt⟩
    have ea := atInDef (m := .no) hx
    have ef := filled_next (m := .ex) (z := [.str [], .str [], .str [], .str [], .bool false, .int .i64 0, .str [], .sl .nil 0 [], .sl .nil 0 [], .sl .nil 0 []]) tInDefS_rows rfl (tInDefS_get hx)
    have es := szR_get (tInDefS_get hx)
    have el := szR_take_le (rs := tInDefS xs) (i + 1)
    have hc := fun K => c_toInDef x K (by omega)
    have hek := encL_len (m := .no) (r := tInDef x)
    have hek2 := encL_len (m := .ex) (r := tInDef x)
    have hfl := flat_enc (m := .ex) (r := tInDef x)
    rw [tInDef_len] at hek hek2
    unfold putCells at ef
    rw [hek2] at ef
    have htk : (encL .no (tInDef x)).take 10 = encL .no (tInDef x) := List.take_of_length_le (by omega)
    simp -implicitDefEqProofs [hlt, ea, hek, htk, encInDefS_len]
    intro _
    refine callK_of (hc _) ?_
    have hfl2 : (encL .ex (tInDef x)).all flat = true := List.all_eq_true.2 hfl
    rw [tInDefS_len] at efl
    simp -implicitDefEqProofs [hek2, efl, ef, hfl2, hlt]
    refine ⟨by omega, ?_⟩
    unfold maxLen at *
    simp (disch := omega) only [wrap64]
    exact for_next hlt (St.le_of (by simp) (by simp [St.trunc, look, mapV, mapC]) rfl (by simp [St.trunc]))
  · have e : i = xs.length := by omega
    subst e
    have eq : filled .ex [.str [], .str [], .str [], .str [], .bool false, .int .i64 0, .str [], .sl .nil 0 [], .sl .nil 0 [], .sl .nil 0 []] (tInDefS xs) xs.length = encR .ex (tInDefS xs) := by rw [← filled_all (z := ([.str [], .str [], .str [], .str [], .bool false, .int .i64 0, .str [], .sl .nil 0 [], .sl .nil 0 [], .sl .nil 0 []] : List AC))]; simp
    simp -implicitDefEqProofs [eq]
theorem c_eqInDef (a b : DInDef) (K) : Ct Try.prog 193 [.agg (encL .no (tInDef a)), .agg (encL .no (tInDef b))] K (.bool (eqB a b)) K := by
  obtain ⟨x0, x1, ⟨x2_0, x2_1⟩, x3, ⟨x4_0, x4_1, x4_2, x4_3⟩, x5⟩ := a
  obtain ⟨y0, y1, ⟨y2_0, y2_1⟩, y3, ⟨y4_0, y4_1, y4_2, y4_3⟩, y5⟩ := b
  refine ct_fn { n0 := 5, ex := [], tk := [] } Try.func193 rfl (by kernel_rfl) (by kernel_rfl) rfl ?_
  simp -implicitDefEqProofs [Try.f193, tInDef, tType, tValue, encL_app, encL, encT, szL, szT]
  refine ⟨fun h => eqB_ne fun e => h (by cases e; rfl), fun h0 => ?_⟩
  refine ⟨fun h => eqB_ne fun e => h (by cases e; rfl), fun h1 => ?_⟩
  have hc := fun K => c_eqType ⟨x2_0, x2_1⟩ ⟨y2_0, y2_1⟩ K
  simp only [tType, encL_app, encL, encT, List.cons_append, List.nil_append, Md.ow_no, tStrS_len, tIntS_len] at hc
  refine callK_of (hc _) ?_
  simp -implicitDefEqProofs
  refine ⟨fun h => eqB_ne fun e => (by cases e; rw [eqB_self] at h; cases h), fun h2 => ?_⟩
  rw [eqB_iff] at h2
  refine ⟨fun h => eqB_ne fun e => h (by cases e; rfl), fun h3 => ?_⟩
  have hc := fun K => c_eqValue ⟨x4_0, x4_1, x4_2, x4_3⟩ ⟨y4_0, y4_1, y4_2, y4_3⟩ K
  simp only [tValue, encL_app, encL, encT, List.cons_append, List.nil_append, Md.ow_no, tStrS_len, tIntS_len, tValueS_len] at hc
  refine callK_of (hc _) ?_
  simp -implicitDefEqProofs
  refine ⟨fun h => eqB_ne fun e => (by cases e; rw [eqB_self] at h; cases h), fun h4 => ?_⟩
  rw [eqB_iff] at h4
  refine callK_of (c_eqDirS x5 y5 _) ?_
  simp -implicitDefEqProofs
  refine ⟨fun h => eqB_ne fun e => (by cases e; rw [eqB_self] at h; cases h), fun h5 => ?_⟩
  rw [eqB_iff] at h5
  rw [eqB_iff]
  try cases h0
  try cases h1
  try cases h2
  try cases h3
  try cases h4
  try cases h5
  rfl
theorem c_eqInDefS (xs ys : List DInDef) (K) : Ct Try.prog 170 [.sl .no xs.length (encR .no (tInDefS xs)), .sl .no ys.length (encR .no (tInDefS ys))] K (.bool (eqB xs ys)) K := by
  refine ct_fn { n0 := 6, ex := [], tk := [] } Try.func170 rfl (by kernel_rfl) (by kernel_rfl) rfl ?_
  simp -implicitDefEqProofs [Try.f170]
  intro h1 h2
  refine ⟨fun h => eqB_ne fun e => h (by rw [e]), fun hlen => ?_⟩
  refine wC_loop (fun m s => ∃ i, i ≤ xs.length ∧ m = xs.length - i ∧ xs.take i = ys.take i ∧
    s = { env := [(0, .sl .no xs.length (encR .no (tInDefS xs))), (1, .sl .no ys.length (encR .no (tInDefS ys))), (4, .bool false), (5, .int .i64 i)], loc := [], K := [] :: K }) xs.length _
    (St.le_of (by simp) (by simp) rfl rfl) ⟨0, by omega, rfl, by simp, rfl⟩ ?_
  rintro m _ ⟨i, hi, rfl, hz, rfl⟩
  rcases Nat.lt_or_ge i xs.length with hlt | hge
  · obtain ⟨x, hx⟩ : ∃ x, xs[i]? = some x := ⟨_, List.getElem?_eq_getElem hlt⟩
    obtain ⟨z, hz2⟩ : ∃ x, ys[i]? = some x := ⟨_, List.getElem?_eq_getElem (by omega)⟩
    have ea := atInDef (m := .no) hx
    have eb := atInDef (m := .no) hz2
    have hek := encL_len (m := .no) (r := tInDef x)
    have hek2 := encL_len (m := .no) (r := tInDef z)
    rw [tInDef_len] at hek hek2
    have hc := fun K => c_eqInDef x z K
    have htk : (encL .no (tInDef x)).take 10 = encL .no (tInDef x) := List.take_of_length_le (by omega)
    have htk2 : (encL .no (tInDef z)).take 10 = encL .no (tInDef z) := List.take_of_length_le (by omega)
    simp -implicitDefEqProofs [hlt, ea, eb, hek, hek2, htk, htk2, encInDefS_len]
    intro _
    refine wRun_draw true rfl (by decide +kernel) ?_
    simp -implicitDefEqProofs [hlt, ea, eb, hek, hek2, htk, htk2, encInDefS_len]
    refine ⟨by omega, ?_⟩
    refine callK_of (hc _) ?_
    simp -implicitDefEqProofs
    refine ⟨fun h3 => eqB_ne fun e => (by rw [e, hz2] at hx; cases hx; rw [eqB_self] at h3; cases h3), fun h3 => ?_⟩
    rw [eqB_iff] at h3
    subst h3
    unfold maxLen at *
    simp (disch := omega) only [wrap64]
    refine ⟨xs.length - (i + 1), by omega, _, St.le_of (by simp) ?_ rfl (by simp [St.trunc]), i + 1, by omega, rfl, ?_, rfl⟩
    · simp [St.trunc, look, mapV, mapC]
    · rw [List.take_add_one, List.take_add_one, hz, hx, hz2]
  · have e : i = xs.length := by omega
    subst e
    simp -implicitDefEqProofs
    intro _
    refine (eqB_iff.2 ?_)
    rw [List.take_of_length_le (by omega), List.take_of_length_le (by omega)] at hz
    exact hz
theorem c_szFieldDef (a : DFieldDef) (l : Int) (K) (h1 : 0 ≤ l) (h2 : l ≤ 1048576) : ∃ r, Ct Try.prog 185 [.agg (encL .no (tFieldDef a)), .int .i64 l] K (.int .i64 r) K ∧ SZ l (szL (tFieldDef a)) r := by
  obtain ⟨x0, x1, x2, ⟨x3_0, x3_1⟩, x4⟩ := a
  have es : szL (tFieldDef ⟨x0, x1, x2, ⟨x3_0, x3_1⟩, x4⟩) = x0.length + x1.length + (x2.length + szR (tInDefS x2)) + x3_0.length + x3_1.length + (x4.length + szR (tDirS x4)) := by simp [tFieldDef, tType, encL_app, encL, encT, szL, szT]; try omega
  refine ⟨_, ?_, subz_SZ _ _⟩
  rw [es]
  refine ct_fn { n0 := 5, ex := [], tk := [] } Try.func185 rfl (by kernel_rfl) (by kernel_rfl) rfl ?_
  simp -implicitDefEqProofs [Try.f185, tFieldDef, tType, encL_app, encL, encT, szL, szT]
  intro hn0
  unfold maxLen at hn0
  simp (disch := omega) only [wrap64]
  refine ⟨fun h => by unfold subz; rw [if_pos (by omega)], fun h0 => ?_⟩
  intro hn1
  unfold maxLen at hn1
  simp (disch := omega) only [wrap64]
  refine ⟨fun h => by unfold subz; rw [if_pos (by omega)], fun h1 => ?_⟩
  obtain ⟨r2, hc, hr2⟩ := c_szInDefS x2 ((l - x0.length) - x1.length) _ (by omega) (by omega)
  refine callK_of hc ?_
  simp -implicitDefEqProofs
  unfold SZ at hr2
  refine ⟨fun h => by unfold subz; rw [if_pos (by omega)], fun h2 => ?_⟩
  have es3 : szL (tType ⟨x3_0, x3_1⟩) = x3_0.length + x3_1.length := by simp [tType, encL_app, encL, encT, szL, szT]; try omega
  obtain ⟨r3, hc, hr3⟩ := c_szType ⟨x3_0, x3_1⟩ r2 _ (by omega) (by omega)
  simp only [tType, encL_app, encL, encT, List.cons_append, List.nil_append, Md.ow_no, tStrS_len, tIntS_len] at hc
  refine callK_of hc ?_
  simp -implicitDefEqProofs
  unfold SZ at hr3
  refine ⟨fun h => by unfold subz; rw [if_pos (by omega)], fun h3 => ?_⟩
  obtain ⟨r4, hc, hr4⟩ := c_szDirS x4 r3 _ (by omega) (by omega)
  refine callK_of hc ?_
  simp -implicitDefEqProofs
  unfold SZ at hr4
  refine ⟨fun h => by unfold subz; rw [if_pos (by omega)], fun h4 => ?_⟩
  unfold subz; rw [if_neg (by omega)]; try omega
theorem c_szFieldDefS (xs : List DFieldDef) (l : Int) (K) (h1 : 0 ≤ l) (h2 : l ≤ 1048576) : ∃ r, Ct Try.prog 159 [.sl .no xs.length (encR .no (tFieldDefS xs)), .int .i64 l] K (.int .i64 r) K ∧ SZ l (xs.length + szR (tFieldDefS xs)) r := by
  refine ⟨_, ?_, subz_SZ _ _⟩
  refine ct_fn { n0 := 6, ex := [], tk := [] } Try.func159 rfl (by kernel_rfl) (by kernel_rfl) rfl ?_
  simp -implicitDefEqProofs [Try.f159]
  intro hn
  unfold maxLen at hn
  simp (disch := omega) only [wrap64]
  refine ⟨fun h => by unfold subz; rw [if_pos (by omega)], fun h => ?_⟩
  refine wC_loop (fun m s => ∃ i, i ≤ xs.length ∧ m = xs.length - i ∧ ((szR ((tFieldDefS xs).take i) : Nat) : Int) ≤ l - xs.length ∧
    s = { env := [(0, .sl .no xs.length (encR .no (tFieldDefS xs))), (1, .int .i64 (l - xs.length - szR ((tFieldDefS xs).take i))), (4, .int .i64 0), (5, .int .i64 i)], loc := [], K := [] :: K }) xs.length _
    (St.le_of (by simp) (by simp [szR]) rfl rfl) ⟨0, by omega, rfl, by simp [szR]; omega, by simp [szR]⟩ ?_
  rintro m _ ⟨i, hi, rfl, hz, rfl⟩
  rcases Nat.lt_or_ge i xs.length with hlt | hge
  · obtain ⟨x, hx⟩ : ∃ x, xs[i]? = some x := ⟨_, List.getElem?_eq_getElem hlt⟩
    have ea := atFieldDef (m := .no) hx
    have es := szR_get (tFieldDefS_get hx)
    have el := szR_take_le (rs := tFieldDefS xs) (i + 1)
    obtain ⟨r, hc, hr⟩ := c_szFieldDef x (l - xs.length - szR ((tFieldDefS xs).take i)) ([] :: K) (by omega) (by omega)
    unfold SZ at hr
    have hek := encL_len (m := .no) (r := tFieldDef x)
    rw [tFieldDef_len] at hek
    have htk : (encL .no (tFieldDef x)).take 6 = encL .no (tFieldDef x) := List.take_of_length_le (by omega)
    simp -implicitDefEqProofs [hlt, ea, hek, htk, encFieldDefS_len]
    intro _
    refine callK_of hc ?_
    simp -implicitDefEqProofs
    unfold maxLen at *
    refine ⟨fun h3 => by unfold subz; rw [if_pos (by omega)], fun h3 => ?_⟩
    simp (disch := omega) only [wrap64]
    refine ⟨xs.length - (i + 1), by omega, _, St.le_of (by simp) ?_ rfl (by simp [St.trunc]), i + 1, by omega, rfl, by omega, rfl⟩
    have e3 : r = l - xs.length - (szR ((tFieldDefS xs).take (i + 1)) : Nat) := by omega
    simp [St.trunc, look, mapV, mapC, e3]
  · have e : i = xs.length := by omega
    subst e
    simp -implicitDefEqProofs
    intro _
    have et : (tFieldDefS xs).take xs.length = tFieldDefS xs := List.take_of_length_le (by simp)
    rw [et] at hz ⊢
    unfold subz; rw [if_neg (by omega)]; try omega
theorem c_toFieldDef (a : DFieldDef) (K) (hs : szL (tFieldDef a) ≤ 1048576) : Ct Try.prog 188 [.agg (encL .no (tFieldDef a))] K (.agg (encL .ex (tFieldDef a))) K := by
  obtain ⟨x0, x1, x2, ⟨x3_0, x3_1⟩, x4⟩ := a
  have es : szL (tFieldDef ⟨x0, x1, x2, ⟨x3_0, x3_1⟩, x4⟩) = x0.length + x1.length + (x2.length + szR (tInDefS x2)) + x3_0.length + x3_1.length + (x4.length + szR (tDirS x4)) := by simp [tFieldDef, tType, encL_app, encL, encT, szL, szT]; try omega
  rw [es] at hs
  refine ct_fn { n0 := 4, ex := [], tk := [12, 16, 20, 22] } Try.func188 rfl (by kernel_rfl) (by kernel_rfl) rfl ?_
  simp -implicitDefEqProofs [Try.f188, tFieldDef, tType, encL_app, encL, encT, szL, szT]
  refine callK_of (c_toInDefS x2 _ (by omega)) ?_
  simp -implicitDefEqProofs
  have es3 : szL (tType ⟨x3_0, x3_1⟩) = x3_0.length + x3_1.length := by simp [tType, encL_app, encL, encT, szL, szT]; try omega
  have hc := fun K => c_toType ⟨x3_0, x3_1⟩ K (by omega)
  simp only [tType, encL_app, encL, encT, List.cons_append, List.nil_append, Md.ow_no, Md.ow_ex, tStrS_len, tIntS_len] at hc
  refine callK_of (hc _) ?_
  simp -implicitDefEqProofs
  refine callK_of (c_toDirS x4 _ (by omega)) ?_
  simp -implicitDefEqProofs
theorem c_toFieldDefS (xs : List DFieldDef) (K) (hs : xs.length + szR (tFieldDefS xs) ≤ 1048576) : Ct Try.prog 164 [.sl .no xs.length (encR .no (tFieldDefS xs))] K (.sl (.ex 256) xs.length (encR .ex (tFieldDefS xs))) K := by
  refine ct_fn { n0 := 5, ex := [], tk := [7, 20, 22], kp := [7], es := true } Try.func164 rfl (by kernel_rfl) (by kernel_rfl) rfl ?_
  simp -implicitDefEqProofs [Try.f164]
  intro h1
  unfold maxLen at h1
  refine ⟨by unfold maxLen; omega, fun y => ?_⟩
  have e0 : (List.replicate xs.length ([.str [], .str [], .sl .nil 0 [], .str [], .str [], .sl .nil 0 []] : List AC)).flatten = filled .ex [.str [], .str [], .sl .nil 0 [], .str [], .str [], .sl .nil 0 []] (tFieldDefS xs) 0 := by rw [filled_zero]; simp
  rw [e0]
  refine wC_for (fun i => { env := [(0, .sl .no xs.length (encR .no (tFieldDefS xs))), (2, .sl .nil 0 []), (3, .nam y (.sl (.ex 256) xs.length (filled .ex [.str [], .str [], .sl .nil 0 [], .str [], .str [], .sl .nil 0 []] (tFieldDefS xs) i))), (4, .int .i64 i)], loc := [], K := [] :: K }) xs.length (St.le_of (by simp) (by simp) rfl rfl) ?_
  intro i hi
  have efl := filled_len (m := .ex) (z := [.str [], .str [], .sl .nil 0 [], .str [], .str [], .sl .nil 0 []]) (i := i) (tFieldDefS_rows (xs := xs)) rfl (by simpa using hi)
  rcases Nat.lt_or_ge i xs.length with hlt | hge
  · obtain ⟨x, hx⟩ : ∃ x, xs[i]? = some x := ⟨_, List.getElem?_eq_getElem hlt⟩
    have ea := atFieldDef (m := .no) hx
    have ef := filled_next (m := .ex) (z := [.str [], .str [], .sl .nil 0 [], .str [], .str [], .sl .nil 0 []]) tFieldDefS_rows rfl (tFieldDefS_get hx)
    have es := szR_get (tFieldDefS_get hx)
    have el := szR_take_le (rs := tFieldDefS xs) (i + 1)
    have hc := fun K => c_toFieldDef x K (by omega)
    have hek := encL_len (m := .no) (r := tFieldDef x)
    have hek2 := encL_len (m := .ex) (r := tFieldDef x)
    have hfl := flat_enc (m := .ex) (r := tFieldDef x)
    rw [tFieldDef_len] at hek hek2
    unfold putCells at ef
    rw [hek2] at ef
    have htk : (encL .no (tFieldDef x)).take 6 = encL .no (tFieldDef x) := List.take_of_length_le (by omega)
    simp -implicitDefEqProofs [hlt, ea, hek, htk, encFieldDefS_len]
    intro _
    refine callK_of (hc _) ?_
    have hfl2 : (encL .ex (tFieldDef x)).all flat = true := List.all_eq_true.2 hfl
    rw [tFieldDefS_len] at efl
    simp -implicitDefEqProofs [hek2, efl, ef, hfl2, hlt]
    refine ⟨by omega, ?_⟩
    unfold maxLen at *
    simp (disch := omega) only [wrap64]
    exact for_next hlt (St.le_of (by simp) (by simp [St.trunc, look, mapV, mapC]) rfl (by simp [St.trunc]))
  · have e : i = xs.length := by omega
    subst e
    have eq : filled .ex [.str [], .str [], .sl .nil 0 [], .str [], .str [], .sl .nil 0 []] (tFieldDefS xs) xs.length = encR .ex (tFieldDefS xs) := by rw [← filled_all (z := ([.str [], .str [], .sl .nil 0 [], .str [], .str [], .sl .nil 0 []] : List AC))]; simp
    simp -implicitDefEqProofs [eq]
theorem c_eqFieldDef (a b : DFieldDef) (K) : Ct Try.prog 192 [.agg (encL .no (tFieldDef a)), .agg (encL .no (tFieldDef b))] K (.bool (eqB a b)) K := by
  obtain ⟨x0, x1, x2, ⟨x3_0, x3_1⟩, x4⟩ := a
  obtain ⟨y0, y1, y2, ⟨y3_0, y3_1⟩, y4⟩ := b
  refine ct_fn { n0 := 5, ex := [], tk := [] } Try.func192 rfl (by kernel_rfl) (by kernel_rfl) rfl ?_
  simp -implicitDefEqProofs [Try.f192, tFieldDef, tType, encL_app, encL, encT, szL, szT]
  refine ⟨fun h => eqB_ne fun e => h (by cases e; rfl), fun h0 => ?_⟩
  refine ⟨fun h => eqB_ne fun e => h (by cases e; rfl), fun h1 => ?_⟩
  refine callK_of (c_eqInDefS x2 y2 _) ?_
  simp -implicitDefEqProofs
  refine ⟨fun h => eqB_ne fun e => (by cases e; rw [eqB_self] at h; cases h), fun h2 => ?_⟩
  rw [eqB_iff] at h2
  have hc := fun K => c_eqType ⟨x3_0, x3_1⟩ ⟨y3_0, y3_1⟩ K
  simp only [tType, encL_app, encL, encT, List.cons_append, List.nil_append, Md.ow_no, tStrS_len, tIntS_len] at hc
  refine callK_of (hc _) ?_
  simp -implicitDefEqProofs
  refine ⟨fun h => eqB_ne fun e => (by cases e; rw [eqB_self] at h; cases h), fun h3 => ?_⟩
  rw [eqB_iff] at h3
  refine callK_of (c_eqDirS x4 y4 _) ?_
  simp -implicitDefEqProofs
  refine ⟨fun h => eqB_ne fun e => (by cases e; rw [eqB_self] at h; cases h), fun h4 => ?_⟩
  rw [eqB_iff] at h4
  rw [eqB_iff]
  try cases h0
  try cases h1
  try cases h2
  try cases h3
  try cases h4
  rfl
theorem c_eqFieldDefS (xs ys : List DFieldDef) (K) : Ct Try.prog 169 [.sl .no xs.length (encR .no (tFieldDefS xs)), .sl .no ys.length (encR .no (tFieldDefS ys))] K (.bool (eqB xs ys)) K := by
  refine ct_fn { n0 := 6, ex := [], tk := [] } Try.func169 rfl (by kernel_rfl) (by kernel_rfl) rfl ?_
  simp -implicitDefEqProofs [Try.f169]
  intro h1 h2
  refine ⟨fun h => eqB_ne fun e => h (by rw [e]), fun hlen => ?_⟩
  refine wC_loop (fun m s => ∃ i, i ≤ xs.length ∧ m = xs.length - i ∧ xs.take i = ys.take i ∧
    s = { env := [(0, .sl .no xs.length (encR .no (tFieldDefS xs))), (1, .sl .no ys.length (encR .no (tFieldDefS ys))), (4, .bool false), (5, .int .i64 i)], loc := [], K := [] :: K }) xs.length _
    (St.le_of (by simp) (by simp) rfl rfl) ⟨0, by omega, rfl, by simp, rfl⟩ ?_
  rintro m _ ⟨i, hi, rfl, hz, rfl⟩
  rcases Nat.lt_or_ge i xs.length with hlt | hge
  · obtain ⟨x, hx⟩ : ∃ x, xs[i]? = some x := ⟨_, List.getElem?_eq_getElem hlt⟩
    obtain ⟨z, hz2⟩ : ∃ x, ys[i]? = some x := ⟨_, List.getElem?_eq_getElem (by omega)⟩
    have ea := atFieldDef (m := .no) hx
    have eb := atFieldDef (m := .no) hz2
    have hek := encL_len (m := .no) (r := tFieldDef x)
    have hek2 := encL_len (m := .no) (r := tFieldDef z)
    rw [tFieldDef_len] at hek hek2
    have hc := fun K => c_eqFieldDef x z K
    have htk : (encL .no (tFieldDef x)).take 6 = encL .no (tFieldDef x) := List.take_of_length_le (by omega)
    have htk2 : (encL .no (tFieldDef z)).take 6 = encL .no (tFieldDef z) := List.take_of_length_le (by omega)
    simp -implicitDefEqProofs [hlt, ea, eb, hek, hek2, htk, htk2, encFieldDefS_len]
    intro _
    refine wRun_draw true rfl (by decide +kernel) ?_
    simp -implicitDefEqProofs [hlt, ea, eb, hek, hek2, htk, htk2, encFieldDefS_len]
    refine ⟨by omega, ?_⟩
    refine callK_of (hc _) ?_
    simp -implicitDefEqProofs
    refine ⟨fun h3 => eqB_ne fun e => (by rw [e, hz2] at hx; cases hx; rw [eqB_self] at h3; cases h3), fun h3 => ?_⟩
    rw [eqB_iff] at h3
    subst h3
    unfold maxLen at *
    simp (disch := omega) only [wrap64]
    refine ⟨xs.length - (i + 1), by omega, _, St.le_of (by simp) ?_ rfl (by simp [St.trunc]), i + 1, by omega, rfl, ?_, rfl⟩
    · simp [St.trunc, look, mapV, mapC]
    · rw [List.take_add_one, List.take_add_one, hz, hx, hz2]
  · have e : i = xs.length := by omega
    subst e
    simp -implicitDefEqProofs
    intro _
    refine (eqB_iff.2 ?_)
    rw [List.take_of_length_le (by omega), List.take_of_length_le (by omega)] at hz
    exact hz
theorem c_szEnumDef (a : DEnumDef) (l : Int) (K) (h1 : 0 ≤ l) (h2 : l ≤ 1048576) : ∃ r, Ct Try.prog 187 [.agg (encL .no (tEnumDef a)), .int .i64 l] K (.int .i64 r) K ∧ SZ l (szL (tEnumDef a)) r := by
  obtain ⟨x0, x1, x2⟩ := a
  have es : szL (tEnumDef ⟨x0, x1, x2⟩) = x0.length + x1.length + (x2.length + szR (tDirS x2)) := by simp [tEnumDef, encL_app, encL, encT, szL, szT]; try omega
  refine ⟨_, ?_, subz_SZ _ _⟩
  rw [es]
  refine ct_fn { n0 := 5, ex := [], tk := [] } Try.func187 rfl (by kernel_rfl) (by kernel_rfl) rfl ?_
  simp -implicitDefEqProofs [Try.f187, tEnumDef, encL_app, encL, encT, szL, szT]
  intro hn0
  unfold maxLen at hn0
  simp (disch := omega) only [wrap64]
  refine ⟨fun h => by unfold subz; rw [if_pos (by omega)], fun h0 => ?_⟩
  intro hn1
  unfold maxLen at hn1
  simp (disch := omega) only [wrap64]
  refine ⟨fun h => by unfold subz; rw [if_pos (by omega)], fun h1 => ?_⟩
  obtain ⟨r2, hc, hr2⟩ := c_szDirS x2 ((l - x0.length) - x1.length) _ (by omega) (by omega)
  refine callK_of hc ?_
  simp -implicitDefEqProofs
  unfold SZ at hr2
  refine ⟨fun h => by unfold subz; rw [if_pos (by omega)], fun h2 => ?_⟩
  unfold subz; rw [if_neg (by omega)]; try omega
theorem c_szEnumDefS (xs : List DEnumDef) (l : Int) (K) (h1 : 0 ≤ l) (h2 : l ≤ 1048576) : ∃ r, Ct Try.prog 161 [.sl .no xs.length (encR .no (tEnumDefS xs)), .int .i64 l] K (.int .i64 r) K ∧ SZ l (xs.length + szR (tEnumDefS xs)) r := by
  refine ⟨_, ?_, subz_SZ _ _⟩
  refine ct_fn { n0 := 6, ex := [], tk := [] } Try.func161 rfl (by kernel_rfl) (by kernel_rfl) rfl ?_
  simp -implicitDefEqProofs [Try.f161]
  intro hn
  unfold maxLen at hn
  simp (disch := omega) only [wrap64]
  refine ⟨fun h => by unfold subz; rw [if_pos (by omega)], fun h => ?_⟩
  refine wC_loop (fun m s => ∃ i, i ≤ xs.length ∧ m = xs.length - i ∧ ((szR ((tEnumDefS xs).take i) : Nat) : Int) ≤ l - xs.length ∧
    s = { env := [(0, .sl .no xs.length (encR .no (tEnumDefS xs))), (1, .int .i64 (l - xs.length - szR ((tEnumDefS xs).take i))), (4, .int .i64 0), (5, .int .i64 i)], loc := [], K := [] :: K }) xs.length _
    (St.le_of (by simp) (by simp [szR]) rfl rfl) ⟨0, by omega, rfl, by simp [szR]; omega, by simp [szR]⟩ ?_
  rintro m _ ⟨i, hi, rfl, hz, rfl⟩
  rcases Nat.lt_or_ge i xs.length with hlt | hge
  · obtain ⟨x, hx⟩ : ∃ x, xs[i]? = some x := ⟨_, List.getElem?_eq_getElem hlt⟩
    have ea := atEnumDef (m := .no) hx
    have es := szR_get (tEnumDefS_get hx)
    have el := szR_take_le (rs := tEnumDefS xs) (i + 1)
    obtain ⟨r, hc, hr⟩ := c_szEnumDef x (l - xs.length - szR ((tEnumDefS xs).take i)) ([] :: K) (by omega) (by omega)
    unfold SZ at hr
    have hek := encL_len (m := .no) (r := tEnumDef x)
    rw [tEnumDef_len] at hek
    have htk : (encL .no (tEnumDef x)).take 3 = encL .no (tEnumDef x) := List.take_of_length_le (by omega)
    simp -implicitDefEqProofs [hlt, ea, hek, htk, encEnumDefS_len]
    intro _
    refine callK_of hc ?_
    simp -implicitDefEqProofs
    unfold maxLen at *
    refine ⟨fun h3 => by unfold subz; rw [if_pos (by omega)], fun h3 => ?_⟩
    simp (disch := omega) only [wrap64]
    refine ⟨xs.length - (i + 1), by omega, _, St.le_of (by simp) ?_ rfl (by simp [St.trunc]), i + 1, by omega, rfl, by omega, rfl⟩
    have e3 : r = l - xs.length - (szR ((tEnumDefS xs).take (i + 1)) : Nat) := by omega
    simp [St.trunc, look, mapV, mapC, e3]
  · have e : i = xs.length := by omega
    subst e
    simp -implicitDefEqProofs
    intro _
    have et : (tEnumDefS xs).take xs.length = tEnumDefS xs := List.take_of_length_le (by simp)
    rw [et] at hz ⊢
    unfold subz; rw [if_neg (by omega)]; try omega
theorem c_toEnumDef (a : DEnumDef) (K) (hs : szL (tEnumDef a) ≤ 1048576) : Ct Try.prog 190 [.agg (encL .no (tEnumDef a))] K (.agg (encL .ex (tEnumDef a))) K := by
  obtain ⟨x0, x1, x2⟩ := a
  have es : szL (tEnumDef ⟨x0, x1, x2⟩) = x0.length + x1.length + (x2.length + szR (tDirS x2)) := by simp [tEnumDef, encL_app, encL, encT, szL, szT]; try omega
  rw [es] at hs
  refine ct_fn { n0 := 4, ex := [], tk := [12, 14] } Try.func190 rfl (by kernel_rfl) (by kernel_rfl) rfl ?_
  simp -implicitDefEqProofs [Try.f190, tEnumDef, encL_app, encL, encT, szL, szT]
  refine callK_of (c_toDirS x2 _ (by omega)) ?_
  simp -implicitDefEqProofs
theorem c_toEnumDefS (xs : List DEnumDef) (K) (hs : xs.length + szR (tEnumDefS xs) ≤ 1048576) : Ct Try.prog 166 [.sl .no xs.length (encR .no (tEnumDefS xs))] K (.sl (.ex 262) xs.length (encR .ex (tEnumDefS xs))) K := by
  refine ct_fn { n0 := 5, ex := [], tk := [7, 20, 22], kp := [7], es := true } Try.func166 rfl (by kernel_rfl) (by kernel_rfl) rfl ?_
  simp -implicitDefEqProofs [Try.f166]
  intro h1
  unfold maxLen at h1
  refine ⟨by unfold maxLen; omega, fun y => ?_⟩
  have e0 : (List.replicate xs.length ([.str [], .str [], .sl .nil 0 []] : List AC)).flatten = filled .ex [.str [], .str [], .sl .nil 0 []] (tEnumDefS xs) 0 := by rw [filled_zero]; simp
  rw [e0]
  refine wC_for (fun i => { env := [(0, .sl .no xs.length (encR .no (tEnumDefS xs))), (2, .sl .nil 0 []), (3, .nam y (.sl (.ex 262) xs.length (filled .ex [.str [], .str [], .sl .nil 0 []] (tEnumDefS xs) i))), (4, .int .i64 i)], loc := [], K := [] :: K }) xs.length (St.le_of (by simp) (by simp) rfl rfl) ?_
  intro i hi
  have efl := filled_len (m := .ex) (z := [.str [], .str [], .sl .nil 0 []]) (i := i) (tEnumDefS_rows (xs := xs)) rfl (by simpa using hi)
  rcases Nat.lt_or_ge i xs.length with hlt | hge
  · obtain ⟨x, hx⟩ : ∃ x, xs[i]? = some x := ⟨_, List.getElem?_eq_getElem hlt⟩
    have ea := atEnumDef (m := .no) hx
    have ef := filled_next (m := .ex) (z := [.str [], .str [], .sl .nil 0 []]) tEnumDefS_rows rfl (tEnumDefS_get hx)
    have es := szR_get (tEnumDefS_get hx)
    have el := szR_take_le (rs := tEnumDefS xs) (i + 1)
    have hc := fun K => c_toEnumDef x K (by omega)
    have hek := encL_len (m := .no) (r := tEnumDef x)
    have hek2 := encL_len (m := .ex) (r := tEnumDef x)
    have hfl := flat_enc (m := .ex) (r := tEnumDef x)
    rw [tEnumDef_len] at hek hek2
    unfold putCells at ef
    rw [hek2] at ef
    have htk : (encL .no (tEnumDef x)).take 3 = encL .no (tEnumDef x) := List.take_of_length_le (by omega)
    simp -implicitDefEqProofs [hlt, ea, hek, htk, encEnumDefS_len]
    intro _
    refine callK_of (hc _) ?_
    have hfl2 : (encL .ex (tEnumDef x)).all flat = true := List.all_eq_true.2 hfl
    rw [tEnumDefS_len] at efl
    simp -implicitDefEqProofs [hek2, efl, ef, hfl2, hlt]
    refine ⟨by omega, ?_⟩
    unfold maxLen at *
    simp (disch := omega) only [wrap64]
    exact for_next hlt (St.le_of (by simp) (by simp [St.trunc, look, mapV, mapC]) rfl (by simp [St.trunc]))
  · have e : i = xs.length := by omega
    subst e
    have eq : filled .ex [.str [], .str [], .sl .nil 0 []] (tEnumDefS xs) xs.length = encR .ex (tEnumDefS xs) := by rw [← filled_all (z := ([.str [], .str [], .sl .nil 0 []] : List AC))]; simp
    simp -implicitDefEqProofs [eq]
theorem c_eqEnumDef (a b : DEnumDef) (K) : Ct Try.prog 194 [.agg (encL .no (tEnumDef a)), .agg (encL .no (tEnumDef b))] K (.bool (eqB a b)) K := by
  obtain ⟨x0, x1, x2⟩ := a
  obtain ⟨y0, y1, y2⟩ := b
  refine ct_fn { n0 := 5, ex := [], tk := [] } Try.func194 rfl (by kernel_rfl) (by kernel_rfl) rfl ?_
  simp -implicitDefEqProofs [Try.f194, tEnumDef, encL_app, encL, encT, szL, szT]
  refine ⟨fun h => eqB_ne fun e => h (by cases e; rfl), fun h0 => ?_⟩
  refine ⟨fun h => eqB_ne fun e => h (by cases e; rfl), fun h1 => ?_⟩
  refine callK_of (c_eqDirS x2 y2 _) ?_
  simp -implicitDefEqProofs
  refine ⟨fun h => eqB_ne fun e => (by cases e; rw [eqB_self] at h; cases h), fun h2 => ?_⟩
  rw [eqB_iff] at h2
  rw [eqB_iff]
  try cases h0
  try cases h1
  try cases h2
  rfl
theorem c_eqEnumDefS (xs ys : List DEnumDef) (K) : Ct Try.prog 171 [.sl .no xs.length (encR .no (tEnumDefS xs)), .sl .no ys.length (encR .no (tEnumDefS ys))] K (.bool (eqB xs ys)) K := by
  refine ct_fn { n0 := 6, ex := [], tk := [] } Try.func171 rfl (by kernel_rfl) (by kernel_rfl) rfl ?_
  simp -implicitDefEqProofs [Try.f171]
  intro h1 h2
  refine ⟨fun h => eqB_ne fun e => h (by rw [e]), fun hlen => ?_⟩
  refine wC_loop (fun m s => ∃ i, i ≤ xs.length ∧ m = xs.length - i ∧ xs.take i = ys.take i ∧
    s = { env := [(0, .sl .no xs.length (encR .no (tEnumDefS xs))), (1, .sl .no ys.length (encR .no (tEnumDefS ys))), (4, .bool false), (5, .int .i64 i)], loc := [], K := [] :: K }) xs.length _
    (St.le_of (by simp) (by simp) rfl rfl) ⟨0, by omega, rfl, by simp, rfl⟩ ?_
  rintro m _ ⟨i, hi, rfl, hz, rfl⟩
  rcases Nat.lt_or_ge i xs.length with hlt | hge
  · obtain ⟨x, hx⟩ : ∃ x, xs[i]? = some x := ⟨_, List.getElem?_eq_getElem hlt⟩
    obtain ⟨z, hz2⟩ : ∃ x, ys[i]? = some x := ⟨_, List.getElem?_eq_getElem (by omega)⟩
    have ea := atEnumDef (m := .no) hx
    have eb := atEnumDef (m := .no) hz2
    have hek := encL_len (m := .no) (r := tEnumDef x)
    have hek2 := encL_len (m := .no) (r := tEnumDef z)
    rw [tEnumDef_len] at hek hek2
    have hc := fun K => c_eqEnumDef x z K
    have htk : (encL .no (tEnumDef x)).take 3 = encL .no (tEnumDef x) := List.take_of_length_le (by omega)
    have htk2 : (encL .no (tEnumDef z)).take 3 = encL .no (tEnumDef z) := List.take_of_length_le (by omega)
    simp -implicitDefEqProofs [hlt, ea, eb, hek, hek2, htk, htk2, encEnumDefS_len]
    intro _
    refine wRun_draw true rfl (by decide +kernel) ?_
    simp -implicitDefEqProofs [hlt, ea, eb, hek, hek2, htk, htk2, encEnumDefS_len]
    refine ⟨by omega, ?_⟩
    refine callK_of (hc _) ?_
    simp -implicitDefEqProofs
    refine ⟨fun h3 => eqB_ne fun e => (by rw [e, hz2] at hx; cases hx; rw [eqB_self] at h3; cases h3), fun h3 => ?_⟩
    rw [eqB_iff] at h3
    subst h3
    unfold maxLen at *
    simp (disch := omega) only [wrap64]
    refine ⟨xs.length - (i + 1), by omega, _, St.le_of (by simp) ?_ rfl (by simp [St.trunc]), i + 1, by omega, rfl, ?_, rfl⟩
    · simp [St.trunc, look, mapV, mapC]
    · rw [List.take_add_one, List.take_add_one, hz, hx, hz2]
  · have e : i = xs.length := by omega
    subst e
    simp -implicitDefEqProofs
    intro _
    refine (eqB_iff.2 ?_)
    rw [List.take_of_length_le (by omega), List.take_of_length_le (by omega)] at hz
    exact hz
theorem c_szRoot (a : DRoot) (l : Int) (K) (h1 : 0 ≤ l) (h2 : l ≤ 1048576) : ∃ r, Ct Try.prog 145 [.agg (encL .no (tRoot a)), .int .i64 l] K (.int .i64 r) K ∧ SZ l (szL (tRoot a)) r := by
  obtain ⟨x0, x1⟩ := a
  have es : szL (tRoot ⟨x0, x1⟩) = x1.length := by simp [tRoot, encL_app, encL, encT, szL, szT]; try omega
  refine ⟨_, ?_, subz_SZ _ _⟩
  rw [es]
  refine ct_fn { n0 := 5, ex := [], tk := [] } Try.func145 rfl (by kernel_rfl) (by kernel_rfl) rfl ?_
  simp -implicitDefEqProofs [Try.f145, tRoot, encL_app, encL, encT, szL, szT]
  intro hn1
  unfold maxLen at hn1
  simp (disch := omega) only [wrap64]
  refine ⟨fun h => by unfold subz; rw [if_pos (by omega)], fun h1 => ?_⟩
  unfold subz; rw [if_neg (by omega)]; try omega
theorem c_szRootS (xs : List DRoot) (l : Int) (K) (h1 : 0 ≤ l) (h2 : l ≤ 1048576) : ∃ r, Ct Try.prog 114 [.sl .no xs.length (encR .no (tRootS xs)), .int .i64 l] K (.int .i64 r) K ∧ SZ l (xs.length + szR (tRootS xs)) r := by
  refine ⟨_, ?_, subz_SZ _ _⟩
  refine ct_fn { n0 := 6, ex := [], tk := [] } Try.func114 rfl (by kernel_rfl) (by kernel_rfl) rfl ?_
  simp -implicitDefEqProofs [Try.f114]
  intro hn
  unfold maxLen at hn
  simp (disch := omega) only [wrap64]
  refine ⟨fun h => by unfold subz; rw [if_pos (by omega)], fun h => ?_⟩
  refine wC_loop (fun m s => ∃ i, i ≤ xs.length ∧ m = xs.length - i ∧ ((szR ((tRootS xs).take i) : Nat) : Int) ≤ l - xs.length ∧
    s = { env := [(0, .sl .no xs.length (encR .no (tRootS xs))), (1, .int .i64 (l - xs.length - szR ((tRootS xs).take i))), (4, .int .i64 0), (5, .int .i64 i)], loc := [], K := [] :: K }) xs.length _
    (St.le_of (by simp) (by simp [szR]) rfl rfl) ⟨0, by omega, rfl, by simp [szR]; omega, by simp [szR]⟩ ?_
  rintro m _ ⟨i, hi, rfl, hz, rfl⟩
  rcases Nat.lt_or_ge i xs.length with hlt | hge
  · obtain ⟨x, hx⟩ : ∃ x, xs[i]? = some x := ⟨_, List.getElem?_eq_getElem hlt⟩
    have ea := atRoot (m := .no) hx
    have es := szR_get (tRootS_get hx)
    have el := szR_take_le (rs := tRootS xs) (i + 1)
    obtain ⟨r, hc, hr⟩ := c_szRoot x (l - xs.length - szR ((tRootS xs).take i)) ([] :: K) (by omega) (by omega)
    unfold SZ at hr
    have hek := encL_len (m := .no) (r := tRoot x)
    rw [tRoot_len] at hek
    have htk : (encL .no (tRoot x)).take 2 = encL .no (tRoot x) := List.take_of_length_le (by omega)
    simp -implicitDefEqProofs [hlt, ea, hek, htk, encRootS_len]
    intro _
    refine callK_of hc ?_
    simp -implicitDefEqProofs
    unfold maxLen at *
    refine ⟨fun h3 => by unfold subz; rw [if_pos (by omega)], fun h3 => ?_⟩
    simp (disch := omega) only [wrap64]
    refine ⟨xs.length - (i + 1), by omega, _, St.le_of (by simp) ?_ rfl (by simp [St.trunc]), i + 1, by omega, rfl, by omega, rfl⟩
    have e3 : r = l - xs.length - (szR ((tRootS xs).take (i + 1)) : Nat) := by omega
    simp [St.trunc, look, mapV, mapC, e3]
  · have e : i = xs.length := by omega
    subst e
    simp -implicitDefEqProofs
    intro _
    have et : (tRootS xs).take xs.length = tRootS xs := List.take_of_length_le (by simp)
    rw [et] at hz ⊢
    unfold subz; rw [if_neg (by omega)]; try omega
theorem c_toRoot (a : DRoot) (K) (hs : szL (tRoot a) ≤ 1048576) : Ct Try.prog 148 [.agg (encL .no (tRoot a))] K (.agg (encL .ex (tRoot a))) K := by
  obtain ⟨x0, x1⟩ := a
  have es : szL (tRoot ⟨x0, x1⟩) = x1.length := by simp [tRoot, encL_app, encL, encT, szL, szT]; try omega
  rw [es] at hs
  refine ct_fn { n0 := 4, ex := [], tk := [10] } Try.func148 rfl (by kernel_rfl) (by kernel_rfl) rfl ?_
  simp -implicitDefEqProofs [Try.f148, tRoot, encL_app, encL, encT, szL, szT]
theorem c_toRootS (xs : List DRoot) (K) (hs : xs.length + szR (tRootS xs) ≤ 1048576) : Ct Try.prog 117 [.sl .no xs.length (encR .no (tRootS xs))] K (.sl (.ex 211) xs.length (encR .ex (tRootS xs))) K := by
  refine ct_fn { n0 := 5, ex := [], tk := [7, 20, 22], kp := [7], es := true } Try.func117 rfl (by kernel_rfl) (by kernel_rfl) rfl ?_
  simp -implicitDefEqProofs [Try.f117]
  intro h1
  unfold maxLen at h1
  refine ⟨by unfold maxLen; omega, fun y => ?_⟩
  have e0 : (List.replicate xs.length ([.int .i64 0, .str []] : List AC)).flatten = filled .ex [.int .i64 0, .str []] (tRootS xs) 0 := by rw [filled_zero]; simp
  rw [e0]
  refine wC_for (fun i => { env := [(0, .sl .no xs.length (encR .no (tRootS xs))), (2, .sl .nil 0 []), (3, .nam y (.sl (.ex 211) xs.length (filled .ex [.int .i64 0, .str []] (tRootS xs) i))), (4, .int .i64 i)], loc := [], K := [] :: K }) xs.length (St.le_of (by simp) (by simp) rfl rfl) ?_
  intro i hi
  have efl := filled_len (m := .ex) (z := [.int .i64 0, .str []]) (i := i) (tRootS_rows (xs := xs)) rfl (by simpa using hi)
  rcases Nat.lt_or_ge i xs.length with hlt | hge
  · obtain ⟨x, hx⟩ : ∃ x, xs[i]? = some x := ⟨_, List.getElem?_eq_getElem hlt⟩
    have ea := atRoot (m := .no) hx
    have ef := filled_next (m := .ex) (z := [.int .i64 0, .str []]) tRootS_rows rfl (tRootS_get hx)
    have es := szR_get (tRootS_get hx)
    have el := szR_take_le (rs := tRootS xs) (i + 1)
    have hc := fun K => c_toRoot x K (by omega)
    have hek := encL_len (m := .no) (r := tRoot x)
    have hek2 := encL_len (m := .ex) (r := tRoot x)
    have hfl := flat_enc (m := .ex) (r := tRoot x)
    rw [tRoot_len] at hek hek2
    unfold putCells at ef
    rw [hek2] at ef
    have htk : (encL .no (tRoot x)).take 2 = encL .no (tRoot x) := List.take_of_length_le (by omega)
    simp -implicitDefEqProofs [hlt, ea, hek, htk, encRootS_len]
    intro _
    refine callK_of (hc _) ?_
    have hfl2 : (encL .ex (tRoot x)).all flat = true := List.all_eq_true.2 hfl
    rw [tRootS_len] at efl
    simp -implicitDefEqProofs [hek2, efl, ef, hfl2, hlt]
    refine ⟨by omega, ?_⟩
    unfold maxLen at *
    simp (disch := omega) only [wrap64]
    exact for_next hlt (St.le_of (by simp) (by simp [St.trunc, look, mapV, mapC]) rfl (by simp [St.trunc]))
  · have e : i = xs.length := by omega
    subst e
    have eq : filled .ex [.int .i64 0, .str []] (tRootS xs) xs.length = encR .ex (tRootS xs) := by rw [← filled_all (z := ([.int .i64 0, .str []] : List AC))]; simp
    simp -implicitDefEqProofs [eq]
theorem c_eqRoot (a b : DRoot) (K) : Ct Try.prog 151 [.agg (encL .no (tRoot a)), .agg (encL .no (tRoot b))] K (.bool (eqB a b)) K := by
  obtain ⟨x0, x1⟩ := a
  obtain ⟨y0, y1⟩ := b
  refine ct_fn { n0 := 5, ex := [], tk := [] } Try.func151 rfl (by kernel_rfl) (by kernel_rfl) rfl ?_
  simp -implicitDefEqProofs [Try.f151, tRoot, encL_app, encL, encT, szL, szT]
  refine ⟨fun h => eqB_ne fun e => h (by cases e; rfl), fun h0 => ?_⟩
  refine ⟨fun h => eqB_ne fun e => h (by cases e; rfl), fun h1 => ?_⟩
  rw [eqB_iff]
  try cases h0
  try cases h1
  rfl
theorem c_eqRootS (xs ys : List DRoot) (K) : Ct Try.prog 120 [.sl .no xs.length (encR .no (tRootS xs)), .sl .no ys.length (encR .no (tRootS ys))] K (.bool (eqB xs ys)) K := by
  refine ct_fn { n0 := 6, ex := [], tk := [] } Try.func120 rfl (by kernel_rfl) (by kernel_rfl) rfl ?_
  simp -implicitDefEqProofs [Try.f120]
  intro h1 h2
  refine ⟨fun h => eqB_ne fun e => h (by rw [e]), fun hlen => ?_⟩
  refine wC_loop (fun m s => ∃ i, i ≤ xs.length ∧ m = xs.length - i ∧ xs.take i = ys.take i ∧
    s = { env := [(0, .sl .no xs.length (encR .no (tRootS xs))), (1, .sl .no ys.length (encR .no (tRootS ys))), (4, .bool false), (5, .int .i64 i)], loc := [], K := [] :: K }) xs.length _
    (St.le_of (by simp) (by simp) rfl rfl) ⟨0, by omega, rfl, by simp, rfl⟩ ?_
  rintro m _ ⟨i, hi, rfl, hz, rfl⟩
  rcases Nat.lt_or_ge i xs.length with hlt | hge
  · obtain ⟨x, hx⟩ : ∃ x, xs[i]? = some x := ⟨_, List.getElem?_eq_getElem hlt⟩
    obtain ⟨z, hz2⟩ : ∃ x, ys[i]? = some x := ⟨_, List.getElem?_eq_getElem (by omega)⟩
    have ea := atRoot (m := .no) hx
    have eb := atRoot (m := .no) hz2
    have hek := encL_len (m := .no) (r := tRoot x)
    have hek2 := encL_len (m := .no) (r := tRoot z)
    rw [tRoot_len] at hek hek2
    have hc := fun K => c_eqRoot x z K
    have htk : (encL .no (tRoot x)).take 2 = encL .no (tRoot x) := List.take_of_length_le (by omega)
    have htk2 : (encL .no (tRoot z)).take 2 = encL .no (tRoot z) := List.take_of_length_le (by omega)
    simp -implicitDefEqProofs [hlt, ea, eb, hek, hek2, htk, htk2, encRootS_len]
    intro _
    refine wRun_draw true rfl (by decide +kernel) ?_
    simp -implicitDefEqProofs [hlt, ea, eb, hek, hek2, htk, htk2, encRootS_len]
    refine ⟨by omega, ?_⟩
    refine callK_of (hc _) ?_
    simp -implicitDefEqProofs
    refine ⟨fun h3 => eqB_ne fun e => (by rw [e, hz2] at hx; cases hx; rw [eqB_self] at h3; cases h3), fun h3 => ?_⟩
    rw [eqB_iff] at h3
    subst h3
    unfold maxLen at *
    simp (disch := omega) only [wrap64]
    refine ⟨xs.length - (i + 1), by omega, _, St.le_of (by simp) ?_ rfl (by simp [St.trunc]), i + 1, by omega, rfl, ?_, rfl⟩
    · simp [St.trunc, look, mapV, mapC]
    · rw [List.take_add_one, List.take_add_one, hz, hx, hz2]
  · have e : i = xs.length := by omega
    subst e
    simp -implicitDefEqProofs
    intro _
    refine (eqB_iff.2 ?_)
    rw [List.take_of_length_le (by omega), List.take_of_length_le (by omega)] at hz
    exact hz
theorem c_szDef (a : DDef) (l : Int) (K) (h1 : 0 ≤ l) (h2 : l ≤ 1048576) : ∃ r, Ct Try.prog 144 [.agg (encL .no (tDef a)), .int .i64 l] K (.int .i64 r) K ∧ SZ l (szL (tDef a)) r := by
  obtain ⟨x0, x1, x2, x3, x4, x5, x6, x7, x8, x9, x10⟩ := a
  have es : szL (tDef ⟨x0, x1, x2, x3, x4, x5, x6, x7, x8, x9, x10⟩) = x2.length + x3.length + (x4.length + szR (tStrS x4)) + (x5.length + szR (tFieldDefS x5)) + (x6.length + szR (tInDefS x6)) + (x7.length + szR (tEnumDefS x7)) + (x8.length + szR (tRootS x8)) + (x10.length + szR (tDirS x10)) := by simp [tDef, encL_app, encL, encT, szL, szT]; try omega
  refine ⟨_, ?_, subz_SZ _ _⟩
  rw [es]
  refine ct_fn { n0 := 5, ex := [], tk := [] } Try.func144 rfl (by kernel_rfl) (by kernel_rfl) rfl ?_
  simp -implicitDefEqProofs [Try.f144, tDef, encL_app, encL, encT, szL, szT]
  intro hn2
  unfold maxLen at hn2
  simp (disch := omega) only [wrap64]
  refine ⟨fun h => by unfold subz; rw [if_pos (by omega)], fun h2 => ?_⟩
  intro hn3
  unfold maxLen at hn3
  simp (disch := omega) only [wrap64]
  refine ⟨fun h => by unfold subz; rw [if_pos (by omega)], fun h3 => ?_⟩
  obtain ⟨r4, hc, hr4⟩ := c_szStringS x4 ((l - x2.length) - x3.length) _ (by omega) (by omega)
  refine callK_of hc ?_
  simp -implicitDefEqProofs
  unfold SZ at hr4
  refine ⟨fun h => by unfold subz; rw [if_pos (by omega)], fun h4 => ?_⟩
  obtain ⟨r5, hc, hr5⟩ := c_szFieldDefS x5 r4 _ (by omega) (by omega)
  refine callK_of hc ?_
  simp -implicitDefEqProofs
  unfold SZ at hr5
  refine ⟨fun h => by unfold subz; rw [if_pos (by omega)], fun h5 => ?_⟩
  obtain ⟨r6, hc, hr6⟩ := c_szInDefS x6 r5 _ (by omega) (by omega)
  refine callK_of hc ?_
  simp -implicitDefEqProofs
  unfold SZ at hr6
  refine ⟨fun h => by unfold subz; rw [if_pos (by omega)], fun h6 => ?_⟩
  obtain ⟨r7, hc, hr7⟩ := c_szEnumDefS x7 r6 _ (by omega) (by omega)
  refine callK_of hc ?_
  simp -implicitDefEqProofs
  unfold SZ at hr7
  refine ⟨fun h => by unfold subz; rw [if_pos (by omega)], fun h7 => ?_⟩
  obtain ⟨r8, hc, hr8⟩ := c_szRootS x8 r7 _ (by omega) (by omega)
  refine callK_of hc ?_
  simp -implicitDefEqProofs
  unfold SZ at hr8
  refine ⟨fun h => by unfold subz; rw [if_pos (by omega)], fun h8 => ?_⟩
  obtain ⟨r10, hc, hr10⟩ := c_szDirS x10 r8 _ (by omega) (by omega)
  refine callK_of hc ?_
  simp -implicitDefEqProofs
  unfold SZ at hr10
  refine ⟨fun h => by unfold subz; rw [if_pos (by omega)], fun h10 => ?_⟩
  unfold subz; rw [if_neg (by omega)]; try omega
theorem c_szDefS (xs : List DDef) (l : Int) (K) (h1 : 0 ≤ l) (h2 : l ≤ 1048576) : ∃ r, Ct Try.prog 113 [.sl .no xs.length (encR .no (tDefS xs)), .int .i64 l] K (.int .i64 r) K ∧ SZ l (xs.length + szR (tDefS xs)) r := by
  refine ⟨_, ?_, subz_SZ _ _⟩
  refine ct_fn { n0 := 6, ex := [], tk := [] } Try.func113 rfl (by kernel_rfl) (by kernel_rfl) rfl ?_
  simp -implicitDefEqProofs [Try.f113]
  intro hn
  unfold maxLen at hn
  simp (disch := omega) only [wrap64]
  refine ⟨fun h => by unfold subz; rw [if_pos (by omega)], fun h => ?_⟩
  refine wC_loop (fun m s => ∃ i, i ≤ xs.length ∧ m = xs.length - i ∧ ((szR ((tDefS xs).take i) : Nat) : Int) ≤ l - xs.length ∧
    s = { env := [(0, .sl .no xs.length (encR .no (tDefS xs))), (1, .int .i64 (l - xs.length - szR ((tDefS xs).take i))), (4, .int .i64 0), (5, .int .i64 i)], loc := [], K := [] :: K }) xs.length _
    (St.le_of (by simp) (by simp [szR]) rfl rfl) ⟨0, by omega, rfl, by simp [szR]; omega, by simp [szR]⟩ ?_
  rintro m _ ⟨i, hi, rfl, hz, rfl⟩
  rcases Nat.lt_or_ge i xs.length with hlt | hge
  · obtain ⟨x, hx⟩ : ∃ x, xs[i]? = some x := ⟨_, List.getElem?_eq_getElem hlt⟩
    have ea := atDef (m := .no) hx
    have es := szR_get (tDefS_get hx)
    have el := szR_take_le (rs := tDefS xs) (i + 1)
    obtain ⟨r, hc, hr⟩ := c_szDef x (l - xs.length - szR ((tDefS xs).take i)) ([] :: K) (by omega) (by omega)
    unfold SZ at hr
    have hek := encL_len (m := .no) (r := tDef x)
    rw [tDef_len] at hek
    have htk : (encL .no (tDef x)).take 11 = encL .no (tDef x) := List.take_of_length_le (by omega)
    simp -implicitDefEqProofs [hlt, ea, hek, htk, encDefS_len]
    intro _
    refine callK_of hc ?_
    simp -implicitDefEqProofs
    unfold maxLen at *
    refine ⟨fun h3 => by unfold subz; rw [if_pos (by omega)], fun h3 => ?_⟩
    simp (disch := omega) only [wrap64]
    refine ⟨xs.length - (i + 1), by omega, _, St.le_of (by simp) ?_ rfl (by simp [St.trunc]), i + 1, by omega, rfl, by omega, rfl⟩
    have e3 : r = l - xs.length - (szR ((tDefS xs).take (i + 1)) : Nat) := by omega
    simp [St.trunc, look, mapV, mapC, e3]
  · have e : i = xs.length := by omega
    subst e
    simp -implicitDefEqProofs
    intro _
    have et : (tDefS xs).take xs.length = tDefS xs := List.take_of_length_le (by simp)
    rw [et] at hz ⊢
    unfold subz; rw [if_neg (by omega)]; try omega
theorem c_toDef (a : DDef) (K) (hs : szL (tDef a) ≤ 1048576) : Ct Try.prog 147 [.agg (encL .no (tDef a))] K (.agg (encL .ex (tDef a))) K := by
  obtain ⟨x0, x1, x2, x3, x4, x5, x6, x7, x8, x9, x10⟩ := a
  have es : szL (tDef ⟨x0, x1, x2, x3, x4, x5, x6, x7, x8, x9, x10⟩) = x2.length + x3.length + (x4.length + szR (tStrS x4)) + (x5.length + szR (tFieldDefS x5)) + (x6.length + szR (tInDefS x6)) + (x7.length + szR (tEnumDefS x7)) + (x8.length + szR (tRootS x8)) + (x10.length + szR (tDirS x10)) := by simp [tDef, encL_app, encL, encT, szL, szT]; try omega
  rw [es] at hs
  refine ct_fn { n0 := 4, ex := [], tk := [18, 22, 26, 30, 34, 41, 43] } Try.func147 rfl (by kernel_rfl) (by kernel_rfl) rfl ?_
  simp -implicitDefEqProofs [Try.f147, tDef, encL_app, encL, encT, szL, szT]
  refine callK_of (c_toStringS x4 _ (by omega)) ?_
  simp -implicitDefEqProofs
  refine callK_of (c_toFieldDefS x5 _ (by omega)) ?_
  simp -implicitDefEqProofs
  refine callK_of (c_toInDefS x6 _ (by omega)) ?_
  simp -implicitDefEqProofs
  refine callK_of (c_toEnumDefS x7 _ (by omega)) ?_
  simp -implicitDefEqProofs
  refine callK_of (c_toRootS x8 _ (by omega)) ?_
  simp -implicitDefEqProofs
  refine callK_of (c_toDirS x10 _ (by omega)) ?_
  simp -implicitDefEqProofs
theorem c_toDefS (xs : List DDef) (K) (hs : xs.length + szR (tDefS xs) ≤ 1048576) : Ct Try.prog 116 [.sl .no xs.length (encR .no (tDefS xs))] K (.sl (.ex 209) xs.length (encR .ex (tDefS xs))) K := by
  refine ct_fn { n0 := 5, ex := [], tk := [7, 20, 22], kp := [7], es := true } Try.func116 rfl (by kernel_rfl) (by kernel_rfl) rfl ?_
  simp -implicitDefEqProofs [Try.f116]
  intro h1
  unfold maxLen at h1
  refine ⟨by unfold maxLen; omega, fun y => ?_⟩
  have e0 : (List.replicate xs.length ([.int .i64 0, .bool false, .str [], .str [], .sl .nil 0 [], .sl .nil 0 [], .sl .nil 0 [], .sl .nil 0 [], .sl .nil 0 [], .bool false, .sl .nil 0 []] : List AC)).flatten = filled .ex [.int .i64 0, .bool false, .str [], .str [], .sl .nil 0 [], .sl .nil 0 [], .sl .nil 0 [], .sl .nil 0 [], .sl .nil 0 [], .bool false, .sl .nil 0 []] (tDefS xs) 0 := by rw [filled_zero]; simp
  rw [e0]
  refine wC_for (fun i => { env := [(0, .sl .no xs.length (encR .no (tDefS xs))), (2, .sl .nil 0 []), (3, .nam y (.sl (.ex 209) xs.length (filled .ex [.int .i64 0, .bool false, .str [], .str [], .sl .nil 0 [], .sl .nil 0 [], .sl .nil 0 [], .sl .nil 0 [], .sl .nil 0 [], .bool false, .sl .nil 0 []] (tDefS xs) i))), (4, .int .i64 i)], loc := [], K := [] :: K }) xs.length (St.le_of (by simp) (by simp) rfl rfl) ?_
  intro i hi
  have efl := filled_len (m := .ex) (z := [.int .i64 0, .bool false, .str [], .str [], .sl .nil 0 [], .sl .nil 0 [], .sl .nil 0 [], .sl .nil 0 [], .sl .nil 0 [], .bool false, .sl .nil 0 []]) (i := i) (tDefS_rows (xs := xs)) rfl (by simpa using hi)
  rcases Nat.lt_or_ge i xs.length with hlt | hge
  · obtain ⟨x, hx⟩ : ∃ x, xs[i]? = some x := ⟨_, List.getElem?_eq_getElem hlt⟩
    have ea := atDef (m := .no) hx
    have ef := filled_next (m := .ex) (z := [.int .i64 0, .bool false, .str [], .str [], .sl .nil 0 [], .sl .nil 0 [], .sl .nil 0 [], .sl .nil 0 [], .sl .nil 0 [], .bool false, .sl .nil 0 []]) tDefS_rows rfl (tDefS_get hx)
    have es := szR_get (tDefS_get hx)
    have el := szR_take_le (rs := tDefS xs) (i + 1)
    have hc := fun K => c_toDef x K (by omega)
    have hek := encL_len (m := .no) (r := tDef x)
    have hek2 := encL_len (m := .ex) (r := tDef x)
    have hfl := flat_enc (m := .ex) (r := tDef x)
    rw [tDef_len] at hek hek2
    unfold putCells at ef
    rw [hek2] at ef
    have htk : (encL .no (tDef x)).take 11 = encL .no (tDef x) := List.take_of_length_le (by omega)
    simp -implicitDefEqProofs [hlt, ea, hek, htk, encDefS_len]
    intro _
    refine callK_of (hc _) ?_
    have hfl2 : (encL .ex (tDef x)).all flat = true := List.all_eq_true.2 hfl
    rw [tDefS_len] at efl
    simp -implicitDefEqProofs [hek2, efl, ef, hfl2, hlt]
    refine ⟨by omega, ?_⟩
    unfold maxLen at *
    simp (disch := omega) only [wrap64]
    exact for_next hlt (St.le_of (by simp) (by simp [St.trunc, look, mapV, mapC]) rfl (by simp [St.trunc]))
  · have e : i = xs.length := by omega
    subst e
    have eq : filled .ex [.int .i64 0, .bool false, .str [], .str [], .sl .nil 0 [], .sl .nil 0 [], .sl .nil 0 [], .sl .nil 0 [], .sl .nil 0 [], .bool false, .sl .nil 0 []] (tDefS xs) xs.length = encR .ex (tDefS xs) := by rw [← filled_all (z := ([.int .i64 0, .bool false, .str [], .str [], .sl .nil 0 [], .sl .nil 0 [], .sl .nil 0 [], .sl .nil 0 [], .sl .nil 0 [], .bool false, .sl .nil 0 []] : List AC))]; simp
    simp -implicitDefEqProofs [eq]
theorem c_eqDef (a b : DDef) (K) : Ct Try.prog 150 [.agg (encL .no (tDef a)), .agg (encL .no (tDef b))] K (.bool (eqB a b)) K := by
  obtain ⟨x0, x1, x2, x3, x4, x5, x6, x7, x8, x9, x10⟩ := a
  obtain ⟨y0, y1, y2, y3, y4, y5, y6, y7, y8, y9, y10⟩ := b
  refine ct_fn { n0 := 5, ex := [], tk := [] } Try.func150 rfl (by kernel_rfl) (by kernel_rfl) rfl ?_
  simp -implicitDefEqProofs [Try.f150, tDef, encL_app, encL, encT, szL, szT]
  refine ⟨fun h => eqB_ne fun e => h (by cases e; rfl), fun h0 => ?_⟩
  refine ⟨fun h => eqB_ne fun e => h (by cases e; rfl), fun h1 => ?_⟩
  refine ⟨fun h => eqB_ne fun e => h (by cases e; rfl), fun h2 => ?_⟩
  refine ⟨fun h => eqB_ne fun e => h (by cases e; rfl), fun h3 => ?_⟩
  refine callK_of (c_eqStringS x4 y4 _) ?_
  simp -implicitDefEqProofs
  refine ⟨fun h => eqB_ne fun e => (by cases e; rw [eqB_self] at h; cases h), fun h4 => ?_⟩
  rw [eqB_iff] at h4
  refine callK_of (c_eqFieldDefS x5 y5 _) ?_
  simp -implicitDefEqProofs
  refine ⟨fun h => eqB_ne fun e => (by cases e; rw [eqB_self] at h; cases h), fun h5 => ?_⟩
  rw [eqB_iff] at h5
  refine callK_of (c_eqInDefS x6 y6 _) ?_
  simp -implicitDefEqProofs
  refine ⟨fun h => eqB_ne fun e => (by cases e; rw [eqB_self] at h; cases h), fun h6 => ?_⟩
  rw [eqB_iff] at h6
  refine callK_of (c_eqEnumDefS x7 y7 _) ?_
  simp -implicitDefEqProofs
  refine ⟨fun h => eqB_ne fun e => (by cases e; rw [eqB_self] at h; cases h), fun h7 => ?_⟩
  rw [eqB_iff] at h7
  refine callK_of (c_eqRootS x8 y8 _) ?_
  simp -implicitDefEqProofs
  refine ⟨fun h => eqB_ne fun e => (by cases e; rw [eqB_self] at h; cases h), fun h8 => ?_⟩
  rw [eqB_iff] at h8
  refine ⟨fun h => eqB_ne fun e => h (by cases e; rfl), fun h9 => ?_⟩
  refine callK_of (c_eqDirS x10 y10 _) ?_
  simp -implicitDefEqProofs
  refine ⟨fun h => eqB_ne fun e => (by cases e; rw [eqB_self] at h; cases h), fun h10 => ?_⟩
  rw [eqB_iff] at h10
  rw [eqB_iff]
  try cases h0
  try cases h1
  try cases h2
  try cases h3
  try cases h4
  try cases h5
  try cases h6
  try cases h7
  try cases h8
  try cases h9
  try cases h10
  rfl
theorem c_eqDefS (xs ys : List DDef) (K) : Ct Try.prog 119 [.sl .no xs.length (encR .no (tDefS xs)), .sl .no ys.length (encR .no (tDefS ys))] K (.bool (eqB xs ys)) K := by
  refine ct_fn { n0 := 6, ex := [], tk := [] } Try.func119 rfl (by kernel_rfl) (by kernel_rfl) rfl ?_
  simp -implicitDefEqProofs [Try.f119]
  intro h1 h2
  refine ⟨fun h => eqB_ne fun e => h (by rw [e]), fun hlen => ?_⟩
  refine wC_loop (fun m s => ∃ i, i ≤ xs.length ∧ m = xs.length - i ∧ xs.take i = ys.take i ∧
    s = { env := [(0, .sl .no xs.length (encR .no (tDefS xs))), (1, .sl .no ys.length (encR .no (tDefS ys))), (4, .bool false), (5, .int .i64 i)], loc := [], K := [] :: K }) xs.length _
    (St.le_of (by simp) (by simp) rfl rfl) ⟨0, by omega, rfl, by simp, rfl⟩ ?_
  rintro m _ ⟨i, hi, rfl, hz, rfl⟩
  rcases Nat.lt_or_ge i xs.length with hlt | hge
  · obtain ⟨x, hx⟩ : ∃ x, xs[i]? = some x := ⟨_, List.getElem?_eq_getElem hlt⟩
    obtain ⟨z, hz2⟩ : ∃ x, ys[i]? = some x := ⟨_, List.getElem?_eq_getElem (by omega)⟩
    have ea := atDef (m := .no) hx
    have eb := atDef (m := .no) hz2
    have hek := encL_len (m := .no) (r := tDef x)
    have hek2 := encL_len (m := .no) (r := tDef z)
    rw [tDef_len] at hek hek2
    have hc := fun K => c_eqDef x z K
    have htk : (encL .no (tDef x)).take 11 = encL .no (tDef x) := List.take_of_length_le (by omega)
    have htk2 : (encL .no (tDef z)).take 11 = encL .no (tDef z) := List.take_of_length_le (by omega)
    simp -implicitDefEqProofs [hlt, ea, eb, hek, hek2, htk, htk2, encDefS_len]
    intro _
    refine wRun_draw true rfl (by decide +kernel) ?_
    simp -implicitDefEqProofs [hlt, ea, eb, hek, hek2, htk, htk2, encDefS_len]
    refine ⟨by omega, ?_⟩
    refine callK_of (hc _) ?_
    simp -implicitDefEqProofs
    refine ⟨fun h3 => eqB_ne fun e => (by rw [e, hz2] at hx; cases hx; rw [eqB_self] at h3; cases h3), fun h3 => ?_⟩
    rw [eqB_iff] at h3
    subst h3
    unfold maxLen at *
    simp (disch := omega) only [wrap64]
    refine ⟨xs.length - (i + 1), by omega, _, St.le_of (by simp) ?_ rfl (by simp [St.trunc]), i + 1, by omega, rfl, ?_, rfl⟩
    · simp [St.trunc, look, mapV, mapC]
    · rw [List.take_add_one, List.take_add_one, hz, hx, hz2]
  · have e : i = xs.length := by omega
    subst e
    simp -implicitDefEqProofs
    intro _
    refine (eqB_iff.2 ?_)
    rw [List.take_of_length_le (by omega), List.take_of_length_le (by omega)] at hz
    exact hz
theorem c_szSchema (a : DSchema) (l : Int) (K) (h1 : 0 ≤ l) (h2 : l ≤ 1048576) : ∃ r, Ct Try.prog 56 [.agg (encL .no (tSchema a)), .int .i64 l] K (.int .i64 r) K ∧ SZ l (szL (tSchema a)) r := by
  obtain ⟨x0, x1, x2⟩ := a
  have es : szL (tSchema ⟨x0, x1, x2⟩) = (x0.length + szR (tDefS x0)) + (x1.length + szR (tDefS x1)) + (x2.length + szR (tRootS x2)) := by simp [tSchema, encL_app, encL, encT, szL, szT]; try omega
  refine ⟨_, ?_, subz_SZ _ _⟩
  rw [es]
  refine ct_fn { n0 := 5, ex := [], tk := [] } Try.func56 rfl (by kernel_rfl) (by kernel_rfl) rfl ?_
  simp -implicitDefEqProofs [Try.f56, tSchema, encL_app, encL, encT, szL, szT]
  obtain ⟨r0, hc, hr0⟩ := c_szDefS x0 l _ (by omega) (by omega)
  refine callK_of hc ?_
  simp -implicitDefEqProofs
  unfold SZ at hr0
  refine ⟨fun h => by unfold subz; rw [if_pos (by omega)], fun h0 => ?_⟩
  obtain ⟨r1, hc, hr1⟩ := c_szDefS x1 r0 _ (by omega) (by omega)
  refine callK_of hc ?_
  simp -implicitDefEqProofs
  unfold SZ at hr1
  refine ⟨fun h => by unfold subz; rw [if_pos (by omega)], fun h1 => ?_⟩
  obtain ⟨r2, hc, hr2⟩ := c_szRootS x2 r1 _ (by omega) (by omega)
  refine callK_of hc ?_
  simp -implicitDefEqProofs
  unfold SZ at hr2
  refine ⟨fun h => by unfold subz; rw [if_pos (by omega)], fun h2 => ?_⟩
  unfold subz; rw [if_neg (by omega)]; try omega
theorem c_toSchema (a : DSchema) (K) (hs : szL (tSchema a) ≤ 1048576) : Ct Try.prog 59 [.agg (encL .no (tSchema a))] K (.agg (encL .ex (tSchema a))) K := by
  obtain ⟨x0, x1, x2⟩ := a
  have es : szL (tSchema ⟨x0, x1, x2⟩) = (x0.length + szR (tDefS x0)) + (x1.length + szR (tDefS x1)) + (x2.length + szR (tRootS x2)) := by simp [tSchema, encL_app, encL, encT, szL, szT]; try omega
  rw [es] at hs
  refine ct_fn { n0 := 4, ex := [], tk := [6, 10, 14, 16] } Try.func59 rfl (by kernel_rfl) (by kernel_rfl) rfl ?_
  simp -implicitDefEqProofs [Try.f59, tSchema, encL_app, encL, encT, szL, szT]
  refine callK_of (c_toDefS x0 _ (by omega)) ?_
  simp -implicitDefEqProofs
  refine callK_of (c_toDefS x1 _ (by omega)) ?_
  simp -implicitDefEqProofs
  refine callK_of (c_toRootS x2 _ (by omega)) ?_
  simp -implicitDefEqProofs
theorem c_eqSchema (a b : DSchema) (K) : Ct Try.prog 62 [.agg (encL .no (tSchema a)), .agg (encL .no (tSchema b))] K (.bool (eqB a b)) K := by
  obtain ⟨x0, x1, x2⟩ := a
  obtain ⟨y0, y1, y2⟩ := b
  refine ct_fn { n0 := 5, ex := [], tk := [] } Try.func62 rfl (by kernel_rfl) (by kernel_rfl) rfl ?_
  simp -implicitDefEqProofs [Try.f62, tSchema, encL_app, encL, encT, szL, szT]
  refine callK_of (c_eqDefS x0 y0 _) ?_
  simp -implicitDefEqProofs
  refine ⟨fun h => eqB_ne fun e => (by cases e; rw [eqB_self] at h; cases h), fun h0 => ?_⟩
  rw [eqB_iff] at h0
  refine callK_of (c_eqDefS x1 y1 _) ?_
  simp -implicitDefEqProofs
  refine ⟨fun h => eqB_ne fun e => (by cases e; rw [eqB_self] at h; cases h), fun h1 => ?_⟩
  rw [eqB_iff] at h1
  refine callK_of (c_eqRootS x2 y2 _) ?_
  simp -implicitDefEqProofs
  refine ⟨fun h => eqB_ne fun e => (by cases e; rw [eqB_self] at h; cases h), fun h2 => ?_⟩
  rw [eqB_iff] at h2
  rw [eqB_iff]
  try cases h0
  try cases h1
  try cases h2
  rfl
theorem c_szUse (a : DUse) (l : Int) (K) (h1 : 0 ≤ l) (h2 : l ≤ 1048576) : ∃ r, Ct Try.prog 43 [.agg (encL .no (tUse a)), .int .i64 l] K (.int .i64 r) K ∧ SZ l (szL (tUse a)) r := by
  obtain ⟨x0, ⟨x1_0, x1_1⟩, x2, x3⟩ := a
  have es : szL (tUse ⟨x0, ⟨x1_0, x1_1⟩, x2, x3⟩) = x0.length + x1_0.length + x1_1.length := by simp [tUse, tType, encL_app, encL, encT, szL, szT]; try omega
  refine ⟨_, ?_, subz_SZ _ _⟩
  rw [es]
  refine ct_fn { n0 := 5, ex := [], tk := [] } Try.func43 rfl (by kernel_rfl) (by kernel_rfl) rfl ?_
  simp -implicitDefEqProofs [Try.f43, tUse, tType, encL_app, encL, encT, szL, szT]
  intro hn0
  unfold maxLen at hn0
  simp (disch := omega) only [wrap64]
  refine ⟨fun h => by unfold subz; rw [if_pos (by omega)], fun h0 => ?_⟩
  have es1 : szL (tType ⟨x1_0, x1_1⟩) = x1_0.length + x1_1.length := by simp [tType, encL_app, encL, encT, szL, szT]; try omega
  obtain ⟨r1, hc, hr1⟩ := c_szType ⟨x1_0, x1_1⟩ (l - x0.length) _ (by omega) (by omega)
  simp only [tType, encL_app, encL, encT, List.cons_append, List.nil_append, Md.ow_no, tStrS_len, tIntS_len] at hc
  refine callK_of hc ?_
  simp -implicitDefEqProofs
  unfold SZ at hr1
  refine ⟨fun h => by unfold subz; rw [if_pos (by omega)], fun h1 => ?_⟩
  unfold subz; rw [if_neg (by omega)]; try omega
theorem c_toUse (a : DUse) (K) (hs : szL (tUse a) ≤ 1048576) : Ct Try.prog 46 [.agg (encL .no (tUse a))] K (.agg (encL .ex (tUse a))) K := by
  obtain ⟨x0, ⟨x1_0, x1_1⟩, x2, x3⟩ := a
  have es : szL (tUse ⟨x0, ⟨x1_0, x1_1⟩, x2, x3⟩) = x0.length + x1_0.length + x1_1.length := by simp [tUse, tType, encL_app, encL, encT, szL, szT]; try omega
  rw [es] at hs
  refine ct_fn { n0 := 4, ex := [], tk := [9, 17] } Try.func46 rfl (by kernel_rfl) (by kernel_rfl) rfl ?_
  simp -implicitDefEqProofs [Try.f46, tUse, tType, encL_app, encL, encT, szL, szT]
  have es1 : szL (tType ⟨x1_0, x1_1⟩) = x1_0.length + x1_1.length := by simp [tType, encL_app, encL, encT, szL, szT]; try omega
  have hc := fun K => c_toType ⟨x1_0, x1_1⟩ K (by omega)
  simp only [tType, encL_app, encL, encT, List.cons_append, List.nil_append, Md.ow_no, Md.ow_ex, tStrS_len, tIntS_len] at hc
  refine callK_of (hc _) ?_
  simp -implicitDefEqProofs
theorem c_eqChange (a b : DChange) (K) : Ct Try.prog 75 [.agg (encL .no (tChange a)), .agg (encL .no (tChange b))] K (.bool (eqB a b)) K := by
  obtain ⟨x0, x1, x2⟩ := a
  obtain ⟨y0, y1, y2⟩ := b
  refine ct_fn { n0 := 5, ex := [], tk := [] } Try.func75 rfl (by kernel_rfl) (by kernel_rfl) rfl ?_
  simp -implicitDefEqProofs [Try.f75, tChange, encL_app, encL, encT, szL, szT]
  refine ⟨fun h => eqB_ne fun e => h (by cases e; rfl), fun h0 => ?_⟩
  refine ⟨fun h => eqB_ne fun e => h (by cases e; rfl), fun h1 => ?_⟩
  refine ⟨fun h => eqB_ne fun e => h (by cases e; rfl), fun h2 => ?_⟩
  rw [eqB_iff]
  try cases h0
  try cases h1
  try cases h2
  rfl
theorem c_eqChangeS (xs ys : List DChange) (K) : Ct Try.prog 17 [.sl .no xs.length (encR .no (tChangeS xs)), .sl .no ys.length (encR .no (tChangeS ys))] K (.bool (eqB xs ys)) K := by
  refine ct_fn { n0 := 6, ex := [], tk := [] } Try.func17 rfl (by kernel_rfl) (by kernel_rfl) rfl ?_
  simp -implicitDefEqProofs [Try.f17]
  intro h1 h2
  refine ⟨fun h => eqB_ne fun e => h (by rw [e]), fun hlen => ?_⟩
  refine wC_loop (fun m s => ∃ i, i ≤ xs.length ∧ m = xs.length - i ∧ xs.take i = ys.take i ∧
    s = { env := [(0, .sl .no xs.length (encR .no (tChangeS xs))), (1, .sl .no ys.length (encR .no (tChangeS ys))), (4, .bool false), (5, .int .i64 i)], loc := [], K := [] :: K }) xs.length _
    (St.le_of (by simp) (by simp) rfl rfl) ⟨0, by omega, rfl, by simp, rfl⟩ ?_
  rintro m _ ⟨i, hi, rfl, hz, rfl⟩
  rcases Nat.lt_or_ge i xs.length with hlt | hge
  · obtain ⟨x, hx⟩ : ∃ x, xs[i]? = some x := ⟨_, List.getElem?_eq_getElem hlt⟩
    obtain ⟨z, hz2⟩ : ∃ x, ys[i]? = some x := ⟨_, List.getElem?_eq_getElem (by omega)⟩
    have ea := atChange (m := .no) hx
    have eb := atChange (m := .no) hz2
    have hek := encL_len (m := .no) (r := tChange x)
    have hek2 := encL_len (m := .no) (r := tChange z)
    rw [tChange_len] at hek hek2
    have hc := fun K => c_eqChange x z K
    have htk : (encL .no (tChange x)).take 3 = encL .no (tChange x) := List.take_of_length_le (by omega)
    have htk2 : (encL .no (tChange z)).take 3 = encL .no (tChange z) := List.take_of_length_le (by omega)
    simp -implicitDefEqProofs [hlt, ea, eb, hek, hek2, htk, htk2, encChangeS_len]
    intro _
    refine wRun_draw true rfl (by decide +kernel) ?_
    simp -implicitDefEqProofs [hlt, ea, eb, hek, hek2, htk, htk2, encChangeS_len]
    refine ⟨by omega, ?_⟩
    refine callK_of (hc _) ?_
    simp -implicitDefEqProofs
    refine ⟨fun h3 => eqB_ne fun e => (by rw [e, hz2] at hx; cases hx; rw [eqB_self] at h3; cases h3), fun h3 => ?_⟩
    rw [eqB_iff] at h3
    subst h3
    unfold maxLen at *
    simp (disch := omega) only [wrap64]
    refine ⟨xs.length - (i + 1), by omega, _, St.le_of (by simp) ?_ rfl (by simp [St.trunc]), i + 1, by omega, rfl, ?_, rfl⟩
    · simp [St.trunc, look, mapV, mapC]
    · rw [List.take_add_one, List.take_add_one, hz, hx, hz2]
  · have e : i = xs.length := by omega
    subst e
    simp -implicitDefEqProofs
    intro _
    refine (eqB_iff.2 ?_)
    rw [List.take_of_length_le (by omega), List.take_of_length_le (by omega)] at hz
    exact hz
end Go.Proofs.Ytcgkcbmhjbbjmaa.Abs
