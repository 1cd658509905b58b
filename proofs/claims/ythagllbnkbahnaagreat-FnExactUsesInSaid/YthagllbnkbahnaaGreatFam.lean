/- PRINTED by fam.py: what the laws do with data. No condition. -/
import Derived.Test.YthagllbnkbahnaaGreatFStr
set_option linter.unusedVariables false
set_option linter.unusedSimpArgs false
namespace Go.Proofs.YthagllbnkbahnaaGreat.Abs
open Go
set_option maxHeartbeats 2000000
set_option maxRecDepth 100000
theorem c_szValue_rec : ∀ N : Nat, (∀ (a : DValue) (l : Int) (K : List (List (List AC))) (h1 : 0 ≤ l) (h2 : l ≤ 1048576) (hN : SizeOf.sizeOf a < N), ∃ r, Ct Tryz.prog 127 [.agg (encL .no (tValue a)), .int .i64 l] K (.int .i64 r) K ∧ SZ l (szL (tValue a)) r) ∧ (∀ (xs : List DValue) (l : Int) (K : List (List (List AC))) (h1 : 0 ≤ l) (h2 : l ≤ 1048576) (hN : SizeOf.sizeOf xs < N), ∃ r, Ct Tryz.prog 150 [.sl .no xs.length (encR .no (tValueS xs)), .int .i64 l] K (.int .i64 r) K ∧ SZ l (xs.length + szR (tValueS xs)) r) := by
  intro N
  induction N with
  | zero => exact ⟨fun a => by intros; omega, fun xs => by intros; omega⟩
  | succ N ih =>
  refine ⟨?_, ?_⟩
  · intro a l K h1 h2 hN
    obtain ⟨x0, x1, x2, x3⟩ := a
    have es : szL (tValue ⟨x0, x1, x2, x3⟩) = x1.length + (x2.length + szR (tValueS x2)) + (x3.length + szR (tStrS x3)) := by simp [tValue, encL_app, encL, encT, szL, szT]; try omega
    refine ⟨_, ?_, subz_SZ _ _⟩
    rw [es]
    refine ct_fn { n0 := 5, ex := [], tk := [] } Tryz.func127 rfl (by kernel_rfl) (by kernel_rfl) rfl ?_
    simp -implicitDefEqProofs [Tryz.f127, tValue, encL_app, encL, encT, szL, szT]
    intro hn1
    unfold maxLen at hn1
    simp (disch := omega) only [wrap64]
    refine ⟨fun h => by unfold subz; rw [if_pos (by omega)], fun h1 => ?_⟩
    obtain ⟨r2, hc, hr2⟩ := ih.2 x2 (l - x1.length) _ (by omega) (by omega) (by simp at hN; omega)
    refine callK_of hc ?_
    simp -implicitDefEqProofs
    unfold SZ at hr2
    refine ⟨fun h => by unfold subz; rw [if_pos (by omega)], fun h2 => ?_⟩
    obtain ⟨r3, hc, hr3⟩ := c_szStringS x3 r2 _ (by omega) (by omega)
    refine callK_of hc ?_
    simp -implicitDefEqProofs
    unfold SZ at hr3
    refine ⟨fun h => by unfold subz; rw [if_pos (by omega)], fun h3 => ?_⟩
    unfold subz; rw [if_neg (by omega)]; try omega
  · intro xs l K h1 h2 hN
    refine ⟨_, ?_, subz_SZ _ _⟩
    refine ct_fn { n0 := 6, ex := [], tk := [] } Tryz.func150 rfl (by kernel_rfl) (by kernel_rfl) rfl ?_
    simp -implicitDefEqProofs [Tryz.f150]
    intro hn
    unfold maxLen at hn
    simp (disch := omega) only [wrap64]
    refine ⟨fun h => by unfold subz; rw [if_pos (by omega)], fun h => ?_⟩
    refine wC_loop (fun m s => ∃ i, i ≤ xs.length ∧ m = xs.length - i ∧ ((szR ((tValueS xs).take i) : Nat) : Int) ≤ l - xs.length ∧
      s = { env := [(0, .sl .no xs.length (encR .no (tValueS xs))), (1, .int .i64 (l - xs.length - szR ((tValueS xs).take i))), (4, .int .i64 0), (5, .int .i64 i)], loc := [], K := [] :: K }) xs.length _
      (St.le_of (by simp) (by simp [szR]) rfl rfl) ⟨0, by omega, rfl, by simp [szR]; omega, by simp [szR]⟩ ?_
    rintro m _ ⟨i, hi, rfl, hz, rfl⟩
    rcases Nat.lt_or_ge i xs.length with hlt | hge
    · obtain ⟨x, hx⟩ : ∃ x, xs[i]? = some x := ⟨_, List.getElem?_eq_getElem hlt⟩
      have ea := atValue (m := .no) hx
      have es := szR_get (tValueS_get hx)
      have el := szR_take_le (rs := tValueS xs) (i + 1)
      obtain ⟨r, hc, hr⟩ := ih.1 x (l - xs.length - szR ((tValueS xs).take i)) ([] :: K) (by omega) (by omega) (by have := List.sizeOf_lt_of_mem (List.mem_of_getElem? hx); omega)
      unfold SZ at hr
      have hek := encL_len (m := .no) (r := tValue x)
      rw [tValue_len] at hek
      have htk : (encL .no (tValue x)).take 4 = encL .no (tValue x) := List.take_of_length_le (by omega)
      simp -implicitDefEqProofs [hlt, ea, hek, htk, encValueS_len]
      intro _
      refine callK_of hc ?_
      simp -implicitDefEqProofs
      unfold maxLen at *
      refine ⟨fun h3 => by unfold subz; rw [if_pos (by omega)], fun h3 => ?_⟩
      simp (disch := omega) only [wrap64]
      refine ⟨xs.length - (i + 1), by omega, _, St.le_of (by simp) ?_ rfl (by simp [St.trunc]), i + 1, by omega, rfl, by omega, rfl⟩
      have e3 : r = l - xs.length - (szR ((tValueS xs).take (i + 1)) : Nat) := by omega
      simp [St.trunc, look, mapV, mapC, e3]
    · have e : i = xs.length := by omega
      subst e
      simp -implicitDefEqProofs
      intro _
      have et : (tValueS xs).take xs.length = tValueS xs := List.take_of_length_le (by simp)
      rw [et] at hz ⊢
      unfold subz; rw [if_neg (by omega)]; try omega
theorem c_szValue (a : DValue) (l : Int) (K) (h1 : 0 ≤ l) (h2 : l ≤ 1048576) : ∃ r, Ct Tryz.prog 127 [.agg (encL .no (tValue a)), .int .i64 l] K (.int .i64 r) K ∧ SZ l (szL (tValue a)) r := (c_szValue_rec _).1 a l K h1 h2 (Nat.lt_succ_self _)
theorem c_szValueS (xs : List DValue) (l : Int) (K) (h1 : 0 ≤ l) (h2 : l ≤ 1048576) : ∃ r, Ct Tryz.prog 150 [.sl .no xs.length (encR .no (tValueS xs)), .int .i64 l] K (.int .i64 r) K ∧ SZ l (xs.length + szR (tValueS xs)) r := (c_szValue_rec _).2 xs l K h1 h2 (Nat.lt_succ_self _)
theorem c_toValue_rec : ∀ N : Nat, (∀ (a : DValue) (K : List (List (List AC))) (hs : szL (tValue a) ≤ 1048576) (hN : SizeOf.sizeOf a < N), Ct Tryz.prog 135 [.agg (encL .no (tValue a))] K (.agg (encL .ex (tValue a))) K) ∧ (∀ (xs : List DValue) (K : List (List (List AC))) (hs : xs.length + szR (tValueS xs) ≤ 1048576) (hN : SizeOf.sizeOf xs < N), Ct Tryz.prog 156 [.sl .no xs.length (encR .no (tValueS xs))] K (.sl (.ex 122) xs.length (encR .ex (tValueS xs))) K) := by
  intro N
  induction N with
  | zero => exact ⟨fun a => by intros; omega, fun xs => by intros; omega⟩
  | succ N ih =>
  refine ⟨?_, ?_⟩
  · intro a K hs hN
    obtain ⟨x0, x1, x2, x3⟩ := a
    have es : szL (tValue ⟨x0, x1, x2, x3⟩) = x1.length + (x2.length + szR (tValueS x2)) + (x3.length + szR (tStrS x3)) := by simp [tValue, encL_app, encL, encT, szL, szT]; try omega
    rw [es] at hs
    refine ct_fn { n0 := 4, ex := [], tk := [12, 16, 18] } Tryz.func135 rfl (by kernel_rfl) (by kernel_rfl) rfl ?_
    simp -implicitDefEqProofs [Tryz.f135, tValue, encL_app, encL, encT, szL, szT]
    refine callK_of (ih.2 x2 _ (by omega) (by simp at hN; omega)) ?_
    simp -implicitDefEqProofs
    refine callK_of (c_toStringS x3 _ (by omega)) ?_
    simp -implicitDefEqProofs
  · intro xs K hs hN
    refine ct_fn { n0 := 5, ex := [], tk := [7, 20, 22], kp := [7], es := true } Tryz.func156 rfl (by kernel_rfl) (by kernel_rfl) rfl ?_
    simp -implicitDefEqProofs [Tryz.f156]
    intro h1
    unfold maxLen at h1
    refine ⟨by unfold maxLen; omega, fun y => ?_⟩
    have e0 : (List.replicate xs.length ([.int .i64 0, .str [], .sl .nil 0 [], .sl .nil 0 []] : List AC)).flatten = filled .ex [.int .i64 0, .str [], .sl .nil 0 [], .sl .nil 0 []] (tValueS xs) 0 := by rw [filled_zero]; simp
    rw [e0]
    refine wC_for (fun i => { env := [(0, .sl .no xs.length (encR .no (tValueS xs))), (2, .sl .nil 0 []), (3, .nam y (.sl (.ex 122) xs.length (filled .ex [.int .i64 0, .str [], .sl .nil 0 [], .sl .nil 0 []] (tValueS xs) i))), (4, .int .i64 i)], loc := [], K := [] :: K }) xs.length (St.le_of (by simp) (by simp) rfl rfl) ?_
    intro i hi
    have efl := filled_len (m := .ex) (z := [.int .i64 0, .str [], .sl .nil 0 [], .sl .nil 0 []]) (i := i) (tValueS_rows (xs := xs)) rfl (by simpa using hi)
    rcases Nat.lt_or_ge i xs.length with hlt | hge
    · obtain ⟨x, hx⟩ : ∃ x, xs[i]? = some x := ⟨_, List.getElem?_eq_getElem hlt⟩
      have ea := atValue (m := .no) hx
      have ef := filled_next (m := .ex) (z := [.int .i64 0, .str [], .sl .nil 0 [], .sl .nil 0 []]) tValueS_rows rfl (tValueS_get hx)
      have es := szR_get (tValueS_get hx)
      have el := szR_take_le (rs := tValueS xs) (i + 1)
      have hc := fun K => ih.1 x K (by omega) (by have := List.sizeOf_lt_of_mem (List.mem_of_getElem? hx); omega)
      have hek := encL_len (m := .no) (r := tValue x)
      have hek2 := encL_len (m := .ex) (r := tValue x)
      have hfl := flat_enc (m := .ex) (r := tValue x)
      rw [tValue_len] at hek hek2
      unfold putCells at ef
      rw [hek2] at ef
      have htk : (encL .no (tValue x)).take 4 = encL .no (tValue x) := List.take_of_length_le (by omega)
      simp -implicitDefEqProofs [hlt, ea, hek, htk, encValueS_len]
      intro _
      refine callK_of (hc _) ?_
      have hfl2 : (encL .ex (tValue x)).all flat = true := List.all_eq_true.2 hfl
      rw [tValueS_len] at efl
      simp -implicitDefEqProofs [hek2, efl, ef, hfl2, hlt]
      refine ⟨by omega, ?_⟩
      unfold maxLen at *
      simp (disch := omega) only [wrap64]
      exact for_next hlt (St.le_of (by simp) (by simp [St.trunc, look, mapV, mapC]) rfl (by simp [St.trunc]))
    · have e : i = xs.length := by omega
      subst e
      have eq : filled .ex [.int .i64 0, .str [], .sl .nil 0 [], .sl .nil 0 []] (tValueS xs) xs.length = encR .ex (tValueS xs) := by rw [← filled_all (z := ([.int .i64 0, .str [], .sl .nil 0 [], .sl .nil 0 []] : List AC))]; simp
      simp -implicitDefEqProofs [eq]
theorem c_toValue (a : DValue) (K) (hs : szL (tValue a) ≤ 1048576) : Ct Tryz.prog 135 [.agg (encL .no (tValue a))] K (.agg (encL .ex (tValue a))) K := (c_toValue_rec _).1 a K hs (Nat.lt_succ_self _)
theorem c_toValueS (xs : List DValue) (K) (hs : xs.length + szR (tValueS xs) ≤ 1048576) : Ct Tryz.prog 156 [.sl .no xs.length (encR .no (tValueS xs))] K (.sl (.ex 122) xs.length (encR .ex (tValueS xs))) K := (c_toValue_rec _).2 xs K hs (Nat.lt_succ_self _)
theorem c_eqValue_rec : ∀ N : Nat, (∀ (a b : DValue) (K : List (List (List AC))) (hN : SizeOf.sizeOf a < N), Ct Tryz.prog 147 [.agg (encL .no (tValue a)), .agg (encL .no (tValue b))] K (.bool (eqB a b)) K) ∧ (∀ (xs ys : List DValue) (K : List (List (List AC))) (hN : SizeOf.sizeOf xs < N), Ct Tryz.prog 160 [.sl .no xs.length (encR .no (tValueS xs)), .sl .no ys.length (encR .no (tValueS ys))] K (.bool (eqB xs ys)) K) := by
  intro N
  induction N with
  | zero => exact ⟨fun a => by intros; omega, fun xs => by intros; omega⟩
  | succ N ih =>
  refine ⟨?_, ?_⟩
  · intro a b K hN
    obtain ⟨x0, x1, x2, x3⟩ := a
    obtain ⟨y0, y1, y2, y3⟩ := b
    refine ct_fn { n0 := 5, ex := [], tk := [] } Tryz.func147 rfl (by kernel_rfl) (by kernel_rfl) rfl ?_
    simp -implicitDefEqProofs [Tryz.f147, tValue, encL_app, encL, encT, szL, szT]
    refine ⟨fun h => eqB_ne fun e => h (by cases e; rfl), fun h0 => ?_⟩
    refine ⟨fun h => eqB_ne fun e => h (by cases e; rfl), fun h1 => ?_⟩
    refine callK_of (ih.2 x2 y2 _ (by simp at hN; omega)) ?_
    simp -implicitDefEqProofs
    refine ⟨fun h => eqB_ne fun e => (by cases e; rw [eqB_self] at h; cases h), fun h2 => ?_⟩
    rw [eqB_iff] at h2
    refine callK_of (c_eqStringS x3 y3 _) ?_
    simp -implicitDefEqProofs
    refine ⟨fun h => eqB_ne fun e => (by cases e; rw [eqB_self] at h; cases h), fun h3 => ?_⟩
    rw [eqB_iff] at h3
    rw [eqB_iff]
    try cases h0
    try cases h1
    try cases h2
    try cases h3
    rfl
  · intro xs ys K hN
    refine ct_fn { n0 := 6, ex := [], tk := [] } Tryz.func160 rfl (by kernel_rfl) (by kernel_rfl) rfl ?_
    simp -implicitDefEqProofs [Tryz.f160]
    intro h1 h2
    refine ⟨fun h => eqB_ne fun e => h (by rw [e]), fun hlen => ?_⟩
    refine wC_loop (fun m s => ∃ i, i ≤ xs.length ∧ m = xs.length - i ∧ xs.take i = ys.take i ∧
      s = { env := [(0, .sl .no xs.length (encR .no (tValueS xs))), (1, .sl .no ys.length (encR .no (tValueS ys))), (4, .bool false), (5, .int .i64 i)], loc := [], K := [] :: K }) xs.length _
      (St.le_of (by simp) (by simp) rfl rfl) ⟨0, by omega, rfl, by simp, rfl⟩ ?_
    rintro m _ ⟨i, hi, rfl, hz, rfl⟩
    rcases Nat.lt_or_ge i xs.length with hlt | hge
    · obtain ⟨x, hx⟩ : ∃ x, xs[i]? = some x := ⟨_, List.getElem?_eq_getElem hlt⟩
      obtain ⟨z, hz2⟩ : ∃ x, ys[i]? = some x := ⟨_, List.getElem?_eq_getElem (by omega)⟩
      have ea := atValue (m := .no) hx
      have eb := atValue (m := .no) hz2
      have hek := encL_len (m := .no) (r := tValue x)
      have hek2 := encL_len (m := .no) (r := tValue z)
      rw [tValue_len] at hek hek2
      have hc := fun K => ih.1 x z K (by have := List.sizeOf_lt_of_mem (List.mem_of_getElem? hx); omega)
      have htk : (encL .no (tValue x)).take 4 = encL .no (tValue x) := List.take_of_length_le (by omega)
      have htk2 : (encL .no (tValue z)).take 4 = encL .no (tValue z) := List.take_of_length_le (by omega)
      simp -implicitDefEqProofs [hlt, ea, eb, hek, hek2, htk, htk2, encValueS_len]
      intro _
      refine wRun_draw true rfl (by decide +kernel) ?_
      simp -implicitDefEqProofs [hlt, ea, eb, hek, hek2, htk, htk2, encValueS_len]
      refine ⟨by omega, ?_⟩
      refine callK_of (hc _) ?_
      simp -implicitDefEqProofs
      refine ⟨fun h3 => eqB_ne fun e => (by rw [e, hz2] at hx; cases hx; rw [eqB_self] at h3; cases h3), fun h3 => ?_⟩
      rw [eqB_iff] at h3
      subst h3
      unfold maxLen at *
      simp (disch := omega) only [wrap64]
      refine ⟨xs.length - (i + 1), by omega, _, St.le_of (by simp) ?_ rfl (by simp [St.trunc]), i + 1, by omega, rfl, ?_, rfl⟩
      · simp [St.trunc, look, mapV, mapC]
      · rw [List.take_add_one, List.take_add_one, hz, hx, hz2]
    · have e : i = xs.length := by omega
      subst e
      simp -implicitDefEqProofs
      intro _
      refine (eqB_iff.2 ?_)
      rw [List.take_of_length_le (by omega), List.take_of_length_le (by omega)] at hz
      exact hz
theorem c_eqValue (a b : DValue) (K) : Ct Tryz.prog 147 [.agg (encL .no (tValue a)), .agg (encL .no (tValue b))] K (.bool (eqB a b)) K := (c_eqValue_rec _).1 a b K (Nat.lt_succ_self _)
theorem c_eqValueS (xs ys : List DValue) (K) : Ct Tryz.prog 160 [.sl .no xs.length (encR .no (tValueS xs)), .sl .no ys.length (encR .no (tValueS ys))] K (.bool (eqB xs ys)) K := (c_eqValue_rec _).2 xs ys K (Nat.lt_succ_self _)
theorem c_szType (a : DType) (l : Int) (K) (h1 : 0 ≤ l) (h2 : l ≤ 1048576) : ∃ r, Ct Tryz.prog 149 [.agg (encL .no (tType a)), .int .i64 l] K (.int .i64 r) K ∧ SZ l (szL (tType a)) r := by
  obtain ⟨x0, x1⟩ := a
  have es : szL (tType ⟨x0, x1⟩) = x0.length + x1.length := by simp [tType, encL_app, encL, encT, szL, szT]; try omega
  refine ⟨_, ?_, subz_SZ _ _⟩
  rw [es]
  refine ct_fn { n0 := 5, ex := [], tk := [] } Tryz.func149 rfl (by kernel_rfl) (by kernel_rfl) rfl ?_
  simp -implicitDefEqProofs [Tryz.f149, tType, encL_app, encL, encT, szL, szT]
  intro hn0
  unfold maxLen at hn0
  simp (disch := omega) only [wrap64]
  refine ⟨fun h => by unfold subz; rw [if_pos (by omega)], fun h0 => ?_⟩
  intro hn1
  unfold maxLen at hn1
  simp (disch := omega) only [wrap64]
  refine ⟨fun h => by unfold subz; rw [if_pos (by omega)], fun h1 => ?_⟩
  unfold subz; rw [if_neg (by omega)]; try omega
theorem c_toType (a : DType) (K) (hs : szL (tType a) ≤ 1048576) : Ct Tryz.prog 155 [.agg (encL .no (tType a))] K (.agg (encL .ex (tType a))) K := by
  obtain ⟨x0, x1⟩ := a
  have es : szL (tType ⟨x0, x1⟩) = x0.length + x1.length := by simp [tType, encL_app, encL, encT, szL, szT]; try omega
  rw [es] at hs
  refine ct_fn { n0 := 4, ex := [], tk := [10] } Tryz.func155 rfl (by kernel_rfl) (by kernel_rfl) rfl ?_
  simp -implicitDefEqProofs [Tryz.f155, tType, encL_app, encL, encT, szL, szT]
theorem c_eqType (a b : DType) (K) : Ct Tryz.prog 72 [.agg (encL .no (tType a)), .agg (encL .no (tType b))] K (.bool (eqB a b)) K := by
  obtain ⟨x0, x1⟩ := a
  obtain ⟨y0, y1⟩ := b
  refine ct_fn { n0 := 5, ex := [], tk := [] } Tryz.func72 rfl (by kernel_rfl) (by kernel_rfl) rfl ?_
  simp -implicitDefEqProofs [Tryz.f72, tType, encL_app, encL, encT, szL, szT]
  refine ⟨fun h => eqB_ne fun e => h (by cases e; rfl), fun h0 => ?_⟩
  refine ⟨fun h => eqB_ne fun e => h (by cases e; rfl), fun h1 => ?_⟩
  rw [eqB_iff]
  try cases h0
  try cases h1
  rfl
theorem c_szArg (a : DArg) (l : Int) (K) (h1 : 0 ≤ l) (h2 : l ≤ 1048576) : ∃ r, Ct Tryz.prog 94 [.agg (encL .no (tArg a)), .int .i64 l] K (.int .i64 r) K ∧ SZ l (szL (tArg a)) r := by
  obtain ⟨x0, ⟨x1_0, x1_1, x1_2, x1_3⟩⟩ := a
  have es : szL (tArg ⟨x0, ⟨x1_0, x1_1, x1_2, x1_3⟩⟩) = x0.length + x1_1.length + (x1_2.length + szR (tValueS x1_2)) + (x1_3.length + szR (tStrS x1_3)) := by simp [tArg, tValue, encL_app, encL, encT, szL, szT]; try omega
  refine ⟨_, ?_, subz_SZ _ _⟩
  rw [es]
  refine ct_fn { n0 := 5, ex := [], tk := [] } Tryz.func94 rfl (by kernel_rfl) (by kernel_rfl) rfl ?_
  simp -implicitDefEqProofs [Tryz.f94, tArg, tValue, encL_app, encL, encT, szL, szT]
  intro hn0
  unfold maxLen at hn0
  simp (disch := omega) only [wrap64]
  refine ⟨fun h => by unfold subz; rw [if_pos (by omega)], fun h0 => ?_⟩
  have es1 : szL (tValue ⟨x1_0, x1_1, x1_2, x1_3⟩) = x1_1.length + (x1_2.length + szR (tValueS x1_2)) + (x1_3.length + szR (tStrS x1_3)) := by simp [tValue, encL_app, encL, encT, szL, szT]; try omega
  obtain ⟨r1, hc, hr1⟩ := c_szValue ⟨x1_0, x1_1, x1_2, x1_3⟩ (l - x0.length) _ (by omega) (by omega)
  simp only [tValue, encL_app, encL, encT, List.cons_append, List.nil_append, Md.ow_no, tStrS_len, tIntS_len, tValueS_len] at hc
  refine callK_of hc ?_
  simp -implicitDefEqProofs
  unfold SZ at hr1
  refine ⟨fun h => by unfold subz; rw [if_pos (by omega)], fun h1 => ?_⟩
  unfold subz; rw [if_neg (by omega)]; try omega
theorem c_szArgS (xs : List DArg) (l : Int) (K) (h1 : 0 ≤ l) (h2 : l ≤ 1048576) : ∃ r, Ct Tryz.prog 56 [.sl .no xs.length (encR .no (tArgS xs)), .int .i64 l] K (.int .i64 r) K ∧ SZ l (xs.length + szR (tArgS xs)) r := by
  refine ⟨_, ?_, subz_SZ _ _⟩
  refine ct_fn { n0 := 6, ex := [], tk := [] } Tryz.func56 rfl (by kernel_rfl) (by kernel_rfl) rfl ?_
  simp -implicitDefEqProofs [Tryz.f56]
  intro hn
  unfold maxLen at hn
  simp (disch := omega) only [wrap64]
  refine ⟨fun h => by unfold subz; rw [if_pos (by omega)], fun h => ?_⟩
  refine wC_loop (fun m s => ∃ i, i ≤ xs.length ∧ m = xs.length - i ∧ ((szR ((tArgS xs).take i) : Nat) : Int) ≤ l - xs.length ∧
    s = { env := [(0, .sl .no xs.length (encR .no (tArgS xs))), (1, .int .i64 (l - xs.length - szR ((tArgS xs).take i))), (4, .int .i64 0), (5, .int .i64 i)], loc := [], K := [] :: K }) xs.length _
    (St.le_of (by simp) (by simp [szR]) rfl rfl) ⟨0, by omega, rfl, by simp [szR]; omega, by simp [szR]⟩ ?_
  rintro m _ ⟨i, hi, rfl, hz, rfl⟩
  rcases Nat.lt_or_ge i xs.length with hlt | hge
  · obtain ⟨x, hx⟩ : ∃ x, xs[i]? = some x := ⟨_, List.getElem?_eq_getElem hlt⟩
    have ea := atArg (m := .no) hx
    have es := szR_get (tArgS_get hx)
    have el := szR_take_le (rs := tArgS xs) (i + 1)
    obtain ⟨r, hc, hr⟩ := c_szArg x (l - xs.length - szR ((tArgS xs).take i)) ([] :: K) (by omega) (by omega)
    unfold SZ at hr
    have hek := encL_len (m := .no) (r := tArg x)
    rw [tArg_len] at hek
    have htk : (encL .no (tArg x)).take 5 = encL .no (tArg x) := List.take_of_length_le (by omega)
    simp -implicitDefEqProofs [hlt, ea, hek, htk, encArgS_len]
    intro _
    refine callK_of hc ?_
    simp -implicitDefEqProofs
    unfold maxLen at *
    refine ⟨fun h3 => by unfold subz; rw [if_pos (by omega)], fun h3 => ?_⟩
    simp (disch := omega) only [wrap64]
    refine ⟨xs.length - (i + 1), by omega, _, St.le_of (by simp) ?_ rfl (by simp [St.trunc]), i + 1, by omega, rfl, by omega, rfl⟩
    have e3 : r = l - xs.length - (szR ((tArgS xs).take (i + 1)) : Nat) := by omega
    simp [St.trunc, look, mapV, mapC, e3]
  · have e : i = xs.length := by omega
    subst e
    simp -implicitDefEqProofs
    intro _
    have et : (tArgS xs).take xs.length = tArgS xs := List.take_of_length_le (by simp)
    rw [et] at hz ⊢
    unfold subz; rw [if_neg (by omega)]; try omega
theorem c_toArg (a : DArg) (K) (hs : szL (tArg a) ≤ 1048576) : Ct Tryz.prog 106 [.agg (encL .no (tArg a))] K (.agg (encL .ex (tArg a))) K := by
  obtain ⟨x0, ⟨x1_0, x1_1, x1_2, x1_3⟩⟩ := a
  have es : szL (tArg ⟨x0, ⟨x1_0, x1_1, x1_2, x1_3⟩⟩) = x0.length + x1_1.length + (x1_2.length + szR (tValueS x1_2)) + (x1_3.length + szR (tStrS x1_3)) := by simp [tArg, tValue, encL_app, encL, encT, szL, szT]; try omega
  rw [es] at hs
  refine ct_fn { n0 := 4, ex := [], tk := [9, 11] } Tryz.func106 rfl (by kernel_rfl) (by kernel_rfl) rfl ?_
  simp -implicitDefEqProofs [Tryz.f106, tArg, tValue, encL_app, encL, encT, szL, szT]
  have es1 : szL (tValue ⟨x1_0, x1_1, x1_2, x1_3⟩) = x1_1.length + (x1_2.length + szR (tValueS x1_2)) + (x1_3.length + szR (tStrS x1_3)) := by simp [tValue, encL_app, encL, encT, szL, szT]; try omega
  have hc := fun K => c_toValue ⟨x1_0, x1_1, x1_2, x1_3⟩ K (by omega)
  simp only [tValue, encL_app, encL, encT, List.cons_append, List.nil_append, Md.ow_no, Md.ow_ex, tStrS_len, tIntS_len, tValueS_len] at hc
  refine callK_of (hc _) ?_
  simp -implicitDefEqProofs
theorem c_toArgS (xs : List DArg) (K) (hs : xs.length + szR (tArgS xs) ≤ 1048576) : Ct Tryz.prog 63 [.sl .no xs.length (encR .no (tArgS xs))] K (.sl (.ex 124) xs.length (encR .ex (tArgS xs))) K := by
  refine ct_fn { n0 := 5, ex := [], tk := [7, 20, 22], kp := [7], es := true } Tryz.func63 rfl (by kernel_rfl) (by kernel_rfl) rfl ?_
  simp -implicitDefEqProofs [Tryz.f63]
  intro h1
  unfold maxLen at h1
  refine ⟨by unfold maxLen; omega, fun y => ?_⟩
  have e0 : (List.replicate xs.length ([.str [], .int .i64 0, .str [], .sl .nil 0 [], .sl .nil 0 []] : List AC)).flatten = filled .ex [.str [], .int .i64 0, .str [], .sl .nil 0 [], .sl .nil 0 []] (tArgS xs) 0 := by rw [filled_zero]; simp
  rw [e0]
  refine wC_for (fun i => { env := [(0, .sl .no xs.length (encR .no (tArgS xs))), (2, .sl .nil 0 []), (3, .nam y (.sl (.ex 124) xs.length (filled .ex [.str [], .int .i64 0, .str [], .sl .nil 0 [], .sl .nil 0 []] (tArgS xs) i))), (4, .int .i64 i)], loc := [], K := [] :: K }) xs.length (St.le_of (by simp) (by simp) rfl rfl) ?_
  intro i hi
  have efl := filled_len (m := .ex) (z := [.str [], .int .i64 0, .str [], .sl .nil 0 [], .sl .nil 0 []]) (i := i) (tArgS_rows (xs := xs)) rfl (by simpa using hi)
  rcases Nat.lt_or_ge i xs.length with hlt | hge
  · obtain ⟨x, hx⟩ : ∃ x, xs[i]? = some x := ⟨_, List.getElem?_eq_getElem hlt⟩
    have ea := atArg (m := .no) hx
    have ef := filled_next (m := .ex) (z := [.str [], .int .i64 0, .str [], .sl .nil 0 [], .sl .nil 0 []]) tArgS_rows rfl (tArgS_get hx)
    have es := szR_get (tArgS_get hx)
    have el := szR_take_le (rs := tArgS xs) (i + 1)
    have hc := fun K => c_toArg x K (by omega)
    have hek := encL_len (m := .no) (r := tArg x)
    have hek2 := encL_len (m := .ex) (r := tArg x)
    have hfl := flat_enc (m := .ex) (r := tArg x)
    rw [tArg_len] at hek hek2
    unfold putCells at ef
    rw [hek2] at ef
    have htk : (encL .no (tArg x)).take 5 = encL .no (tArg x) := List.take_of_length_le (by omega)
    simp -implicitDefEqProofs [hlt, ea, hek, htk, encArgS_len]
    intro _
    refine callK_of (hc _) ?_
    have hfl2 : (encL .ex (tArg x)).all flat = true := List.all_eq_true.2 hfl
    rw [tArgS_len] at efl
    simp -implicitDefEqProofs [hek2, efl, ef, hfl2, hlt]
    refine ⟨by omega, ?_⟩
    unfold maxLen at *
    simp (disch := omega) only [wrap64]
    exact for_next hlt (St.le_of (by simp) (by simp [St.trunc, look, mapV, mapC]) rfl (by simp [St.trunc]))
  · have e : i = xs.length := by omega
    subst e
    have eq : filled .ex [.str [], .int .i64 0, .str [], .sl .nil 0 [], .sl .nil 0 []] (tArgS xs) xs.length = encR .ex (tArgS xs) := by rw [← filled_all (z := ([.str [], .int .i64 0, .str [], .sl .nil 0 [], .sl .nil 0 []] : List AC))]; simp
    simp -implicitDefEqProofs [eq]
theorem c_eqArg (a b : DArg) (K) : Ct Tryz.prog 121 [.agg (encL .no (tArg a)), .agg (encL .no (tArg b))] K (.bool (eqB a b)) K := by
  obtain ⟨x0, ⟨x1_0, x1_1, x1_2, x1_3⟩⟩ := a
  obtain ⟨y0, ⟨y1_0, y1_1, y1_2, y1_3⟩⟩ := b
  refine ct_fn { n0 := 5, ex := [], tk := [] } Tryz.func121 rfl (by kernel_rfl) (by kernel_rfl) rfl ?_
  simp -implicitDefEqProofs [Tryz.f121, tArg, tValue, encL_app, encL, encT, szL, szT]
  refine ⟨fun h => eqB_ne fun e => h (by cases e; rfl), fun h0 => ?_⟩
  have hc := fun K => c_eqValue ⟨x1_0, x1_1, x1_2, x1_3⟩ ⟨y1_0, y1_1, y1_2, y1_3⟩ K
  simp only [tValue, encL_app, encL, encT, List.cons_append, List.nil_append, Md.ow_no, tStrS_len, tIntS_len, tValueS_len] at hc
  refine callK_of (hc _) ?_
  simp -implicitDefEqProofs
  refine ⟨fun h => eqB_ne fun e => (by cases e; rw [eqB_self] at h; cases h), fun h1 => ?_⟩
  rw [eqB_iff] at h1
  rw [eqB_iff]
  try cases h0
  try cases h1
  rfl
theorem c_eqArgS (xs ys : List DArg) (K) : Ct Tryz.prog 75 [.sl .no xs.length (encR .no (tArgS xs)), .sl .no ys.length (encR .no (tArgS ys))] K (.bool (eqB xs ys)) K := by
  refine ct_fn { n0 := 6, ex := [], tk := [] } Tryz.func75 rfl (by kernel_rfl) (by kernel_rfl) rfl ?_
  simp -implicitDefEqProofs [Tryz.f75]
  intro h1 h2
  refine ⟨fun h => eqB_ne fun e => h (by rw [e]), fun hlen => ?_⟩
  refine wC_loop (fun m s => ∃ i, i ≤ xs.length ∧ m = xs.length - i ∧ xs.take i = ys.take i ∧
    s = { env := [(0, .sl .no xs.length (encR .no (tArgS xs))), (1, .sl .no ys.length (encR .no (tArgS ys))), (4, .bool false), (5, .int .i64 i)], loc := [], K := [] :: K }) xs.length _
    (St.le_of (by simp) (by simp) rfl rfl) ⟨0, by omega, rfl, by simp, rfl⟩ ?_
  rintro m _ ⟨i, hi, rfl, hz, rfl⟩
  rcases Nat.lt_or_ge i xs.length with hlt | hge
  · obtain ⟨x, hx⟩ : ∃ x, xs[i]? = some x := ⟨_, List.getElem?_eq_getElem hlt⟩
    obtain ⟨z, hz2⟩ : ∃ x, ys[i]? = some x := ⟨_, List.getElem?_eq_getElem (by omega)⟩
    have ea := atArg (m := .no) hx
    have eb := atArg (m := .no) hz2
    have hek := encL_len (m := .no) (r := tArg x)
    have hek2 := encL_len (m := .no) (r := tArg z)
    rw [tArg_len] at hek hek2
    have hc := fun K => c_eqArg x z K
    have htk : (encL .no (tArg x)).take 5 = encL .no (tArg x) := List.take_of_length_le (by omega)
    have htk2 : (encL .no (tArg z)).take 5 = encL .no (tArg z) := List.take_of_length_le (by omega)
    simp -implicitDefEqProofs [hlt, ea, eb, hek, hek2, htk, htk2, encArgS_len]
    intro _
    refine wRun_draw true rfl (by decide +kernel) ?_
    simp -implicitDefEqProofs [hlt, ea, eb, hek, hek2, htk, htk2, encArgS_len]
    refine ⟨by omega, ?_⟩
    refine callK_of (hc _) ?_
    simp -implicitDefEqProofs
    refine ⟨fun h3 => eqB_ne fun e => (by rw [e, hz2] at hx; cases hx; rw [eqB_self] at h3; cases h3), fun h3 => ?_⟩
    rw [eqB_iff] at h3
    subst h3
    unfold maxLen at *
    simp (disch := omega) only [wrap64]
    refine ⟨xs.length - (i + 1), by omega, _, St.le_of (by simp) ?_ rfl (by simp [St.trunc]), i + 1, by omega, rfl, ?_, rfl⟩
    · simp [St.trunc, look, mapV, mapC]
    · rw [List.take_add_one, List.take_add_one, hz, hx, hz2]
  · have e : i = xs.length := by omega
    subst e
    simp -implicitDefEqProofs
    intro _
    refine (eqB_iff.2 ?_)
    rw [List.take_of_length_le (by omega), List.take_of_length_le (by omega)] at hz
    exact hz
theorem c_szDir (a : DDir) (l : Int) (K) (h1 : 0 ≤ l) (h2 : l ≤ 1048576) : ∃ r, Ct Tryz.prog 95 [.agg (encL .no (tDir a)), .int .i64 l] K (.int .i64 r) K ∧ SZ l (szL (tDir a)) r := by
  obtain ⟨x0, x1⟩ := a
  have es : szL (tDir ⟨x0, x1⟩) = x0.length + (x1.length + szR (tArgS x1)) := by simp [tDir, encL_app, encL, encT, szL, szT]; try omega
  refine ⟨_, ?_, subz_SZ _ _⟩
  rw [es]
  refine ct_fn { n0 := 5, ex := [], tk := [] } Tryz.func95 rfl (by kernel_rfl) (by kernel_rfl) rfl ?_
  simp -implicitDefEqProofs [Tryz.f95, tDir, encL_app, encL, encT, szL, szT]
  intro hn0
  unfold maxLen at hn0
  simp (disch := omega) only [wrap64]
  refine ⟨fun h => by unfold subz; rw [if_pos (by omega)], fun h0 => ?_⟩
  obtain ⟨r1, hc, hr1⟩ := c_szArgS x1 (l - x0.length) _ (by omega) (by omega)
  refine callK_of hc ?_
  simp -implicitDefEqProofs
  unfold SZ at hr1
  refine ⟨fun h => by unfold subz; rw [if_pos (by omega)], fun h1 => ?_⟩
  unfold subz; rw [if_neg (by omega)]; try omega
theorem c_szDirS (xs : List DDir) (l : Int) (K) (h1 : 0 ≤ l) (h2 : l ≤ 1048576) : ∃ r, Ct Tryz.prog 57 [.sl .no xs.length (encR .no (tDirS xs)), .int .i64 l] K (.int .i64 r) K ∧ SZ l (xs.length + szR (tDirS xs)) r := by
  refine ⟨_, ?_, subz_SZ _ _⟩
  refine ct_fn { n0 := 6, ex := [], tk := [] } Tryz.func57 rfl (by kernel_rfl) (by kernel_rfl) rfl ?_
  simp -implicitDefEqProofs [Tryz.f57]
  intro hn
  unfold maxLen at hn
  simp (disch := omega) only [wrap64]
  refine ⟨fun h => by unfold subz; rw [if_pos (by omega)], fun h => ?_⟩
  refine wC_loop (fun m s => ∃ i, i ≤ xs.length ∧ m = xs.length - i ∧ ((szR ((tDirS xs).take i) : Nat) : Int) ≤ l - xs.length ∧
    s = { env := [(0, .sl .no xs.length (encR .no (tDirS xs))), (1, .int .i64 (l - xs.length - szR ((tDirS xs).take i))), (4, .int .i64 0), (5, .int .i64 i)], loc := [], K := [] :: K }) xs.length _
    (St.le_of (by simp) (by simp [szR]) rfl rfl) ⟨0, by omega, rfl, by simp [szR]; omega, by simp [szR]⟩ ?_
  rintro m _ ⟨i, hi, rfl, hz, rfl⟩
  rcases Nat.lt_or_ge i xs.length with hlt | hge
  · obtain ⟨x, hx⟩ : ∃ x, xs[i]? = some x := ⟨_, List.getElem?_eq_getElem hlt⟩
    have ea := atDir (m := .no) hx
    have es := szR_get (tDirS_get hx)
    have el := szR_take_le (rs := tDirS xs) (i + 1)
    obtain ⟨r, hc, hr⟩ := c_szDir x (l - xs.length - szR ((tDirS xs).take i)) ([] :: K) (by omega) (by omega)
    unfold SZ at hr
    have hek := encL_len (m := .no) (r := tDir x)
    rw [tDir_len] at hek
    have htk : (encL .no (tDir x)).take 2 = encL .no (tDir x) := List.take_of_length_le (by omega)
    simp -implicitDefEqProofs [hlt, ea, hek, htk, encDirS_len]
    intro _
    refine callK_of hc ?_
    simp -implicitDefEqProofs
    unfold maxLen at *
    refine ⟨fun h3 => by unfold subz; rw [if_pos (by omega)], fun h3 => ?_⟩
    simp (disch := omega) only [wrap64]
    refine ⟨xs.length - (i + 1), by omega, _, St.le_of (by simp) ?_ rfl (by simp [St.trunc]), i + 1, by omega, rfl, by omega, rfl⟩
    have e3 : r = l - xs.length - (szR ((tDirS xs).take (i + 1)) : Nat) := by omega
    simp [St.trunc, look, mapV, mapC, e3]
  · have e : i = xs.length := by omega
    subst e
    simp -implicitDefEqProofs
    intro _
    have et : (tDirS xs).take xs.length = tDirS xs := List.take_of_length_le (by simp)
    rw [et] at hz ⊢
    unfold subz; rw [if_neg (by omega)]; try omega
theorem c_toDir (a : DDir) (K) (hs : szL (tDir a) ≤ 1048576) : Ct Tryz.prog 107 [.agg (encL .no (tDir a))] K (.agg (encL .ex (tDir a))) K := by
  obtain ⟨x0, x1⟩ := a
  have es : szL (tDir ⟨x0, x1⟩) = x0.length + (x1.length + szR (tArgS x1)) := by simp [tDir, encL_app, encL, encT, szL, szT]; try omega
  rw [es] at hs
  refine ct_fn { n0 := 4, ex := [], tk := [9, 11] } Tryz.func107 rfl (by kernel_rfl) (by kernel_rfl) rfl ?_
  simp -implicitDefEqProofs [Tryz.f107, tDir, encL_app, encL, encT, szL, szT]
  refine callK_of (c_toArgS x1 _ (by omega)) ?_
  simp -implicitDefEqProofs
theorem c_toDirS (xs : List DDir) (K) (hs : xs.length + szR (tDirS xs) ≤ 1048576) : Ct Tryz.prog 64 [.sl .no xs.length (encR .no (tDirS xs))] K (.sl (.ex 132) xs.length (encR .ex (tDirS xs))) K := by
  refine ct_fn { n0 := 5, ex := [], tk := [7, 20, 22], kp := [7], es := true } Tryz.func64 rfl (by kernel_rfl) (by kernel_rfl) rfl ?_
  simp -implicitDefEqProofs [Tryz.f64]
  intro h1
  unfold maxLen at h1
  refine ⟨by unfold maxLen; omega, fun y => ?_⟩
  have e0 : (List.replicate xs.length ([.str [], .sl .nil 0 []] : List AC)).flatten = filled .ex [.str [], .sl .nil 0 []] (tDirS xs) 0 := by rw [filled_zero]; simp
  rw [e0]
  refine wC_for (fun i => { env := [(0, .sl .no xs.length (encR .no (tDirS xs))), (2, .sl .nil 0 []), (3, .nam y (.sl (.ex 132) xs.length (filled .ex [.str [], .sl .nil 0 []] (tDirS xs) i))), (4, .int .i64 i)], loc := [], K := [] :: K }) xs.length (St.le_of (by simp) (by simp) rfl rfl) ?_
  intro i hi
  have efl := filled_len (m := .ex) (z := [.str [], .sl .nil 0 []]) (i := i) (tDirS_rows (xs := xs)) rfl (by simpa using hi)
  rcases Nat.lt_or_ge i xs.length with hlt | hge
  · obtain ⟨x, hx⟩ : ∃ x, xs[i]? = some x := ⟨_, List.getElem?_eq_getElem hlt⟩
    have ea := atDir (m := .no) hx
    have ef := filled_next (m := .ex) (z := [.str [], .sl .nil 0 []]) tDirS_rows rfl (tDirS_get hx)
    have es := szR_get (tDirS_get hx)
    have el := szR_take_le (rs := tDirS xs) (i + 1)
    have hc := fun K => c_toDir x K (by omega)
    have hek := encL_len (m := .no) (r := tDir x)
    have hek2 := encL_len (m := .ex) (r := tDir x)
    have hfl := flat_enc (m := .ex) (r := tDir x)
    rw [tDir_len] at hek hek2
    unfold putCells at ef
    rw [hek2] at ef
    have htk : (encL .no (tDir x)).take 2 = encL .no (tDir x) := List.take_of_length_le (by omega)
    simp -implicitDefEqProofs [hlt, ea, hek, htk, encDirS_len]
    intro _
    refine callK_of (hc _) ?_
    have hfl2 : (encL .ex (tDir x)).all flat = true := List.all_eq_true.2 hfl
    rw [tDirS_len] at efl
    simp -implicitDefEqProofs [hek2, efl, ef, hfl2, hlt]
    refine ⟨by omega, ?_⟩
    unfold maxLen at *
    simp (disch := omega) only [wrap64]
    exact for_next hlt (St.le_of (by simp) (by simp [St.trunc, look, mapV, mapC]) rfl (by simp [St.trunc]))
  · have e : i = xs.length := by omega
    subst e
    have eq : filled .ex [.str [], .sl .nil 0 []] (tDirS xs) xs.length = encR .ex (tDirS xs) := by rw [← filled_all (z := ([.str [], .sl .nil 0 []] : List AC))]; simp
    simp -implicitDefEqProofs [eq]
theorem c_eqDir (a b : DDir) (K) : Ct Tryz.prog 122 [.agg (encL .no (tDir a)), .agg (encL .no (tDir b))] K (.bool (eqB a b)) K := by
  obtain ⟨x0, x1⟩ := a
  obtain ⟨y0, y1⟩ := b
  refine ct_fn { n0 := 5, ex := [], tk := [] } Tryz.func122 rfl (by kernel_rfl) (by kernel_rfl) rfl ?_
  simp -implicitDefEqProofs [Tryz.f122, tDir, encL_app, encL, encT, szL, szT]
  refine ⟨fun h => eqB_ne fun e => h (by cases e; rfl), fun h0 => ?_⟩
  refine callK_of (c_eqArgS x1 y1 _) ?_
  simp -implicitDefEqProofs
  refine ⟨fun h => eqB_ne fun e => (by cases e; rw [eqB_self] at h; cases h), fun h1 => ?_⟩
  rw [eqB_iff] at h1
  rw [eqB_iff]
  try cases h0
  try cases h1
  rfl
theorem c_eqDirS (xs ys : List DDir) (K) : Ct Tryz.prog 76 [.sl .no xs.length (encR .no (tDirS xs)), .sl .no ys.length (encR .no (tDirS ys))] K (.bool (eqB xs ys)) K := by
  refine ct_fn { n0 := 6, ex := [], tk := [] } Tryz.func76 rfl (by kernel_rfl) (by kernel_rfl) rfl ?_
  simp -implicitDefEqProofs [Tryz.f76]
  intro h1 h2
  refine ⟨fun h => eqB_ne fun e => h (by rw [e]), fun hlen => ?_⟩
  refine wC_loop (fun m s => ∃ i, i ≤ xs.length ∧ m = xs.length - i ∧ xs.take i = ys.take i ∧
    s = { env := [(0, .sl .no xs.length (encR .no (tDirS xs))), (1, .sl .no ys.length (encR .no (tDirS ys))), (4, .bool false), (5, .int .i64 i)], loc := [], K := [] :: K }) xs.length _
    (St.le_of (by simp) (by simp) rfl rfl) ⟨0, by omega, rfl, by simp, rfl⟩ ?_
  rintro m _ ⟨i, hi, rfl, hz, rfl⟩
  rcases Nat.lt_or_ge i xs.length with hlt | hge
  · obtain ⟨x, hx⟩ : ∃ x, xs[i]? = some x := ⟨_, List.getElem?_eq_getElem hlt⟩
    obtain ⟨z, hz2⟩ : ∃ x, ys[i]? = some x := ⟨_, List.getElem?_eq_getElem (by omega)⟩
    have ea := atDir (m := .no) hx
    have eb := atDir (m := .no) hz2
    have hek := encL_len (m := .no) (r := tDir x)
    have hek2 := encL_len (m := .no) (r := tDir z)
    rw [tDir_len] at hek hek2
    have hc := fun K => c_eqDir x z K
    have htk : (encL .no (tDir x)).take 2 = encL .no (tDir x) := List.take_of_length_le (by omega)
    have htk2 : (encL .no (tDir z)).take 2 = encL .no (tDir z) := List.take_of_length_le (by omega)
    simp -implicitDefEqProofs [hlt, ea, eb, hek, hek2, htk, htk2, encDirS_len]
    intro _
    refine wRun_draw true rfl (by decide +kernel) ?_
    simp -implicitDefEqProofs [hlt, ea, eb, hek, hek2, htk, htk2, encDirS_len]
    refine ⟨by omega, ?_⟩
    refine callK_of (hc _) ?_
    simp -implicitDefEqProofs
    refine ⟨fun h3 => eqB_ne fun e => (by rw [e, hz2] at hx; cases hx; rw [eqB_self] at h3; cases h3), fun h3 => ?_⟩
    rw [eqB_iff] at h3
    subst h3
    unfold maxLen at *
    simp (disch := omega) only [wrap64]
    refine ⟨xs.length - (i + 1), by omega, _, St.le_of (by simp) ?_ rfl (by simp [St.trunc]), i + 1, by omega, rfl, ?_, rfl⟩
    · simp [St.trunc, look, mapV, mapC]
    · rw [List.take_add_one, List.take_add_one, hz, hx, hz2]
  · have e : i = xs.length := by omega
    subst e
    simp -implicitDefEqProofs
    intro _
    refine (eqB_iff.2 ?_)
    rw [List.take_of_length_le (by omega), List.take_of_length_le (by omega)] at hz
    exact hz
theorem c_szSel_rec : ∀ N : Nat, (∀ (a : DSel) (l : Int) (K : List (List (List AC))) (h1 : 0 ≤ l) (h2 : l ≤ 1048576) (hN : SizeOf.sizeOf a < N), ∃ r, Ct Tryz.prog 25 [.agg (encL .no (tSel a)), .int .i64 l] K (.int .i64 r) K ∧ SZ l (szL (tSel a)) r) ∧ (∀ (xs : List DSel) (l : Int) (K : List (List (List AC))) (h1 : 0 ≤ l) (h2 : l ≤ 1048576) (hN : SizeOf.sizeOf xs < N), ∃ r, Ct Tryz.prog 6 [.sl .no xs.length (encR .no (tSelS xs)), .int .i64 l] K (.int .i64 r) K ∧ SZ l (xs.length + szR (tSelS xs)) r) := by
  intro N
  induction N with
  | zero => exact ⟨fun a => by intros; omega, fun xs => by intros; omega⟩
  | succ N ih =>
  refine ⟨?_, ?_⟩
  · intro a l K h1 h2 hN
    obtain ⟨x0, x1, x2, x3, x4, x5, x6⟩ := a
    have es : szL (tSel ⟨x0, x1, x2, x3, x4, x5, x6⟩) = x1.length + x2.length + x3.length + (x4.length + szR (tArgS x4)) + (x5.length + szR (tDirS x5)) + (x6.length + szR (tSelS x6)) := by simp [tSel, encL_app, encL, encT, szL, szT]; try omega
    refine ⟨_, ?_, subz_SZ _ _⟩
    rw [es]
    refine ct_fn { n0 := 5, ex := [], tk := [] } Tryz.func25 rfl (by kernel_rfl) (by kernel_rfl) rfl ?_
    simp -implicitDefEqProofs [Tryz.f25, tSel, encL_app, encL, encT, szL, szT]
    intro hn1
    unfold maxLen at hn1
    simp (disch := omega) only [wrap64]
    refine ⟨fun h => by unfold subz; rw [if_pos (by omega)], fun h1 => ?_⟩
    intro hn2
    unfold maxLen at hn2
    simp (disch := omega) only [wrap64]
    refine ⟨fun h => by unfold subz; rw [if_pos (by omega)], fun h2 => ?_⟩
    intro hn3
    unfold maxLen at hn3
    simp (disch := omega) only [wrap64]
    refine ⟨fun h => by unfold subz; rw [if_pos (by omega)], fun h3 => ?_⟩
    obtain ⟨r4, hc, hr4⟩ := c_szArgS x4 (((l - x1.length) - x2.length) - x3.length) _ (by omega) (by omega)
    refine callK_of hc ?_
    simp -implicitDefEqProofs
    unfold SZ at hr4
    refine ⟨fun h => by unfold subz; rw [if_pos (by omega)], fun h4 => ?_⟩
    obtain ⟨r5, hc, hr5⟩ := c_szDirS x5 r4 _ (by omega) (by omega)
    refine callK_of hc ?_
    simp -implicitDefEqProofs
    unfold SZ at hr5
    refine ⟨fun h => by unfold subz; rw [if_pos (by omega)], fun h5 => ?_⟩
    obtain ⟨r6, hc, hr6⟩ := ih.2 x6 r5 _ (by omega) (by omega) (by simp at hN; omega)
    refine callK_of hc ?_
    simp -implicitDefEqProofs
    unfold SZ at hr6
    refine ⟨fun h => by unfold subz; rw [if_pos (by omega)], fun h6 => ?_⟩
    unfold subz; rw [if_neg (by omega)]; try omega
  · intro xs l K h1 h2 hN
    refine ⟨_, ?_, subz_SZ _ _⟩
    refine ct_fn { n0 := 6, ex := [], tk := [] } Tryz.func6 rfl (by kernel_rfl) (by kernel_rfl) rfl ?_
    simp -implicitDefEqProofs [Tryz.f6]
    intro hn
    unfold maxLen at hn
    simp (disch := omega) only [wrap64]
    refine ⟨fun h => by unfold subz; rw [if_pos (by omega)], fun h => ?_⟩
    refine wC_loop (fun m s => ∃ i, i ≤ xs.length ∧ m = xs.length - i ∧ ((szR ((tSelS xs).take i) : Nat) : Int) ≤ l - xs.length ∧
      s = { env := [(0, .sl .no xs.length (encR .no (tSelS xs))), (1, .int .i64 (l - xs.length - szR ((tSelS xs).take i))), (4, .int .i64 0), (5, .int .i64 i)], loc := [], K := [] :: K }) xs.length _
      (St.le_of (by simp) (by simp [szR]) rfl rfl) ⟨0, by omega, rfl, by simp [szR]; omega, by simp [szR]⟩ ?_
    rintro m _ ⟨i, hi, rfl, hz, rfl⟩
    rcases Nat.lt_or_ge i xs.length with hlt | hge
    · obtain ⟨x, hx⟩ : ∃ x, xs[i]? = some x := ⟨_, List.getElem?_eq_getElem hlt⟩
      have ea := atSel (m := .no) hx
      have es := szR_get (tSelS_get hx)
      have el := szR_take_le (rs := tSelS xs) (i + 1)
      obtain ⟨r, hc, hr⟩ := ih.1 x (l - xs.length - szR ((tSelS xs).take i)) ([] :: K) (by omega) (by omega) (by have := List.sizeOf_lt_of_mem (List.mem_of_getElem? hx); omega)
      unfold SZ at hr
      have hek := encL_len (m := .no) (r := tSel x)
      rw [tSel_len] at hek
      have htk : (encL .no (tSel x)).take 7 = encL .no (tSel x) := List.take_of_length_le (by omega)
      simp -implicitDefEqProofs [hlt, ea, hek, htk, encSelS_len]
      intro _
      refine callK_of hc ?_
      simp -implicitDefEqProofs
      unfold maxLen at *
      refine ⟨fun h3 => by unfold subz; rw [if_pos (by omega)], fun h3 => ?_⟩
      simp (disch := omega) only [wrap64]
      refine ⟨xs.length - (i + 1), by omega, _, St.le_of (by simp) ?_ rfl (by simp [St.trunc]), i + 1, by omega, rfl, by omega, rfl⟩
      have e3 : r = l - xs.length - (szR ((tSelS xs).take (i + 1)) : Nat) := by omega
      simp [St.trunc, look, mapV, mapC, e3]
    · have e : i = xs.length := by omega
      subst e
      simp -implicitDefEqProofs
      intro _
      have et : (tSelS xs).take xs.length = tSelS xs := List.take_of_length_le (by simp)
      rw [et] at hz ⊢
      unfold subz; rw [if_neg (by omega)]; try omega
theorem c_szSel (a : DSel) (l : Int) (K) (h1 : 0 ≤ l) (h2 : l ≤ 1048576) : ∃ r, Ct Tryz.prog 25 [.agg (encL .no (tSel a)), .int .i64 l] K (.int .i64 r) K ∧ SZ l (szL (tSel a)) r := (c_szSel_rec _).1 a l K h1 h2 (Nat.lt_succ_self _)
theorem c_szSelS (xs : List DSel) (l : Int) (K) (h1 : 0 ≤ l) (h2 : l ≤ 1048576) : ∃ r, Ct Tryz.prog 6 [.sl .no xs.length (encR .no (tSelS xs)), .int .i64 l] K (.int .i64 r) K ∧ SZ l (xs.length + szR (tSelS xs)) r := (c_szSel_rec _).2 xs l K h1 h2 (Nat.lt_succ_self _)
theorem c_toSel_rec : ∀ N : Nat, (∀ (a : DSel) (K : List (List (List AC))) (hs : szL (tSel a) ≤ 1048576) (hN : SizeOf.sizeOf a < N), Ct Tryz.prog 29 [.agg (encL .no (tSel a))] K (.agg (encL .ex (tSel a))) K) ∧ (∀ (xs : List DSel) (K : List (List (List AC))) (hs : xs.length + szR (tSelS xs) ≤ 1048576) (hN : SizeOf.sizeOf xs < N), Ct Tryz.prog 9 [.sl .no xs.length (encR .no (tSelS xs))] K (.sl (.ex 62) xs.length (encR .ex (tSelS xs))) K) := by
  intro N
  induction N with
  | zero => exact ⟨fun a => by intros; omega, fun xs => by intros; omega⟩
  | succ N ih =>
  refine ⟨?_, ?_⟩
  · intro a K hs hN
    obtain ⟨x0, x1, x2, x3, x4, x5, x6⟩ := a
    have es : szL (tSel ⟨x0, x1, x2, x3, x4, x5, x6⟩) = x1.length + x2.length + x3.length + (x4.length + szR (tArgS x4)) + (x5.length + szR (tDirS x5)) + (x6.length + szR (tSelS x6)) := by simp [tSel, encL_app, encL, encT, szL, szT]; try omega
    rw [es] at hs
    refine ct_fn { n0 := 4, ex := [], tk := [18, 22, 26, 28] } Tryz.func29 rfl (by kernel_rfl) (by kernel_rfl) rfl ?_
    simp -implicitDefEqProofs [Tryz.f29, tSel, encL_app, encL, encT, szL, szT]
    refine callK_of (c_toArgS x4 _ (by omega)) ?_
    simp -implicitDefEqProofs
    refine callK_of (c_toDirS x5 _ (by omega)) ?_
    simp -implicitDefEqProofs
    refine callK_of (ih.2 x6 _ (by omega) (by simp at hN; omega)) ?_
    simp -implicitDefEqProofs
  · intro xs K hs hN
    refine ct_fn { n0 := 5, ex := [], tk := [7, 20, 22], kp := [7], es := true } Tryz.func9 rfl (by kernel_rfl) (by kernel_rfl) rfl ?_
    simp -implicitDefEqProofs [Tryz.f9]
    intro h1
    unfold maxLen at h1
    refine ⟨by unfold maxLen; omega, fun y => ?_⟩
    have e0 : (List.replicate xs.length ([.int .i64 0, .str [], .str [], .str [], .sl .nil 0 [], .sl .nil 0 [], .sl .nil 0 []] : List AC)).flatten = filled .ex [.int .i64 0, .str [], .str [], .str [], .sl .nil 0 [], .sl .nil 0 [], .sl .nil 0 []] (tSelS xs) 0 := by rw [filled_zero]; simp
    rw [e0]
    refine wC_for (fun i => { env := [(0, .sl .no xs.length (encR .no (tSelS xs))), (2, .sl .nil 0 []), (3, .nam y (.sl (.ex 62) xs.length (filled .ex [.int .i64 0, .str [], .str [], .str [], .sl .nil 0 [], .sl .nil 0 [], .sl .nil 0 []] (tSelS xs) i))), (4, .int .i64 i)], loc := [], K := [] :: K }) xs.length (St.le_of (by simp) (by simp) rfl rfl) ?_
    intro i hi
    have efl := filled_len (m := .ex) (z := [.int .i64 0, .str [], .str [], .str [], .sl .nil 0 [], .sl .nil 0 [], .sl .nil 0 []]) (i := i) (tSelS_rows (xs := xs)) rfl (by simpa using hi)
    rcases Nat.lt_or_ge i xs.length with hlt | hge
    · obtain ⟨x, hx⟩ : ∃ x, xs[i]? = some x := ⟨_, List.getElem?_eq_getElem hlt⟩
      have ea := atSel (m := .no) hx
      have ef := filled_next (m := .ex) (z := [.int .i64 0, .str [], .str [], .str [], .sl .nil 0 [], .sl .nil 0 [], .sl .nil 0 []]) tSelS_rows rfl (tSelS_get hx)
      have es := szR_get (tSelS_get hx)
      have el := szR_take_le (rs := tSelS xs) (i + 1)
      have hc := fun K => ih.1 x K (by omega) (by have := List.sizeOf_lt_of_mem (List.mem_of_getElem? hx); omega)
      have hek := encL_len (m := .no) (r := tSel x)
      have hek2 := encL_len (m := .ex) (r := tSel x)
      have hfl := flat_enc (m := .ex) (r := tSel x)
      rw [tSel_len] at hek hek2
      unfold putCells at ef
      rw [hek2] at ef
      have htk : (encL .no (tSel x)).take 7 = encL .no (tSel x) := List.take_of_length_le (by omega)
      simp -implicitDefEqProofs [hlt, ea, hek, htk, encSelS_len]
      intro _
      refine callK_of (hc _) ?_
      have hfl2 : (encL .ex (tSel x)).all flat = true := List.all_eq_true.2 hfl
      rw [tSelS_len] at efl
      simp -implicitDefEqProofs [hek2, efl, ef, hfl2, hlt]
      refine ⟨by omega, ?_⟩
      unfold maxLen at *
      simp (disch := omega) only [wrap64]
      exact for_next hlt (St.le_of (by simp) (by simp [St.trunc, look, mapV, mapC]) rfl (by simp [St.trunc]))
    · have e : i = xs.length := by omega
      subst e
      have eq : filled .ex [.int .i64 0, .str [], .str [], .str [], .sl .nil 0 [], .sl .nil 0 [], .sl .nil 0 []] (tSelS xs) xs.length = encR .ex (tSelS xs) := by rw [← filled_all (z := ([.int .i64 0, .str [], .str [], .str [], .sl .nil 0 [], .sl .nil 0 [], .sl .nil 0 []] : List AC))]; simp
      simp -implicitDefEqProofs [eq]
theorem c_toSel (a : DSel) (K) (hs : szL (tSel a) ≤ 1048576) : Ct Tryz.prog 29 [.agg (encL .no (tSel a))] K (.agg (encL .ex (tSel a))) K := (c_toSel_rec _).1 a K hs (Nat.lt_succ_self _)
theorem c_toSelS (xs : List DSel) (K) (hs : xs.length + szR (tSelS xs) ≤ 1048576) : Ct Tryz.prog 9 [.sl .no xs.length (encR .no (tSelS xs))] K (.sl (.ex 62) xs.length (encR .ex (tSelS xs))) K := (c_toSel_rec _).2 xs K hs (Nat.lt_succ_self _)
theorem c_eqSel_rec : ∀ N : Nat, (∀ (a b : DSel) (K : List (List (List AC))) (hN : SizeOf.sizeOf a < N), Ct Tryz.prog 36 [.agg (encL .no (tSel a)), .agg (encL .no (tSel b))] K (.bool (eqB a b)) K) ∧ (∀ (xs ys : List DSel) (K : List (List (List AC))) (hN : SizeOf.sizeOf xs < N), Ct Tryz.prog 13 [.sl .no xs.length (encR .no (tSelS xs)), .sl .no ys.length (encR .no (tSelS ys))] K (.bool (eqB xs ys)) K) := by
  intro N
  induction N with
  | zero => exact ⟨fun a => by intros; omega, fun xs => by intros; omega⟩
  | succ N ih =>
  refine ⟨?_, ?_⟩
  · intro a b K hN
    obtain ⟨x0, x1, x2, x3, x4, x5, x6⟩ := a
    obtain ⟨y0, y1, y2, y3, y4, y5, y6⟩ := b
    refine ct_fn { n0 := 5, ex := [], tk := [] } Tryz.func36 rfl (by kernel_rfl) (by kernel_rfl) rfl ?_
    simp -implicitDefEqProofs [Tryz.f36, tSel, encL_app, encL, encT, szL, szT]
    refine ⟨fun h => eqB_ne fun e => h (by cases e; rfl), fun h0 => ?_⟩
    refine ⟨fun h => eqB_ne fun e => h (by cases e; rfl), fun h1 => ?_⟩
    refine ⟨fun h => eqB_ne fun e => h (by cases e; rfl), fun h2 => ?_⟩
    refine ⟨fun h => eqB_ne fun e => h (by cases e; rfl), fun h3 => ?_⟩
    refine callK_of (c_eqArgS x4 y4 _) ?_
    simp -implicitDefEqProofs
    refine ⟨fun h => eqB_ne fun e => (by cases e; rw [eqB_self] at h; cases h), fun h4 => ?_⟩
    rw [eqB_iff] at h4
    refine callK_of (c_eqDirS x5 y5 _) ?_
    simp -implicitDefEqProofs
    refine ⟨fun h => eqB_ne fun e => (by cases e; rw [eqB_self] at h; cases h), fun h5 => ?_⟩
    rw [eqB_iff] at h5
    refine callK_of (ih.2 x6 y6 _ (by simp at hN; omega)) ?_
    simp -implicitDefEqProofs
    refine ⟨fun h => eqB_ne fun e => (by cases e; rw [eqB_self] at h; cases h), fun h6 => ?_⟩
    rw [eqB_iff] at h6
    rw [eqB_iff]
    try cases h0
    try cases h1
    try cases h2
    try cases h3
    try cases h4
    try cases h5
    try cases h6
    rfl
  · intro xs ys K hN
    refine ct_fn { n0 := 6, ex := [], tk := [] } Tryz.func13 rfl (by kernel_rfl) (by kernel_rfl) rfl ?_
    simp -implicitDefEqProofs [Tryz.f13]
    intro h1 h2
    refine ⟨fun h => eqB_ne fun e => h (by rw [e]), fun hlen => ?_⟩
    refine wC_loop (fun m s => ∃ i, i ≤ xs.length ∧ m = xs.length - i ∧ xs.take i = ys.take i ∧
      s = { env := [(0, .sl .no xs.length (encR .no (tSelS xs))), (1, .sl .no ys.length (encR .no (tSelS ys))), (4, .bool false), (5, .int .i64 i)], loc := [], K := [] :: K }) xs.length _
      (St.le_of (by simp) (by simp) rfl rfl) ⟨0, by omega, rfl, by simp, rfl⟩ ?_
    rintro m _ ⟨i, hi, rfl, hz, rfl⟩
    rcases Nat.lt_or_ge i xs.length with hlt | hge
    · obtain ⟨x, hx⟩ : ∃ x, xs[i]? = some x := ⟨_, List.getElem?_eq_getElem hlt⟩
      obtain ⟨z, hz2⟩ : ∃ x, ys[i]? = some x := ⟨_, List.getElem?_eq_getElem (by omega)⟩
      have ea := atSel (m := .no) hx
      have eb := atSel (m := .no) hz2
      have hek := encL_len (m := .no) (r := tSel x)
      have hek2 := encL_len (m := .no) (r := tSel z)
      rw [tSel_len] at hek hek2
      have hc := fun K => ih.1 x z K (by have := List.sizeOf_lt_of_mem (List.mem_of_getElem? hx); omega)
      have htk : (encL .no (tSel x)).take 7 = encL .no (tSel x) := List.take_of_length_le (by omega)
      have htk2 : (encL .no (tSel z)).take 7 = encL .no (tSel z) := List.take_of_length_le (by omega)
      simp -implicitDefEqProofs [hlt, ea, eb, hek, hek2, htk, htk2, encSelS_len]
      intro _
      refine wRun_draw true rfl (by decide +kernel) ?_
      simp -implicitDefEqProofs [hlt, ea, eb, hek, hek2, htk, htk2, encSelS_len]
      refine ⟨by omega, ?_⟩
      refine callK_of (hc _) ?_
      simp -implicitDefEqProofs
      refine ⟨fun h3 => eqB_ne fun e => (by rw [e, hz2] at hx; cases hx; rw [eqB_self] at h3; cases h3), fun h3 => ?_⟩
      rw [eqB_iff] at h3
      subst h3
      unfold maxLen at *
      simp (disch := omega) only [wrap64]
      refine ⟨xs.length - (i + 1), by omega, _, St.le_of (by simp) ?_ rfl (by simp [St.trunc]), i + 1, by omega, rfl, ?_, rfl⟩
      · simp [St.trunc, look, mapV, mapC]
      · rw [List.take_add_one, List.take_add_one, hz, hx, hz2]
    · have e : i = xs.length := by omega
      subst e
      simp -implicitDefEqProofs
      intro _
      refine (eqB_iff.2 ?_)
      rw [List.take_of_length_le (by omega), List.take_of_length_le (by omega)] at hz
      exact hz
theorem c_eqSel (a b : DSel) (K) : Ct Tryz.prog 36 [.agg (encL .no (tSel a)), .agg (encL .no (tSel b))] K (.bool (eqB a b)) K := (c_eqSel_rec _).1 a b K (Nat.lt_succ_self _)
theorem c_eqSelS (xs ys : List DSel) (K) : Ct Tryz.prog 13 [.sl .no xs.length (encR .no (tSelS xs)), .sl .no ys.length (encR .no (tSelS ys))] K (.bool (eqB xs ys)) K := (c_eqSel_rec _).2 xs ys K (Nat.lt_succ_self _)
theorem c_szInDef (a : DInDef) (l : Int) (K) (h1 : 0 ≤ l) (h2 : l ≤ 1048576) : ∃ r, Ct Tryz.prog 125 [.agg (encL .no (tInDef a)), .int .i64 l] K (.int .i64 r) K ∧ SZ l (szL (tInDef a)) r := by
  obtain ⟨x0, x1, ⟨x2_0, x2_1⟩, x3, ⟨x4_0, x4_1, x4_2, x4_3⟩, x5⟩ := a
  have es : szL (tInDef ⟨x0, x1, ⟨x2_0, x2_1⟩, x3, ⟨x4_0, x4_1, x4_2, x4_3⟩, x5⟩) = x0.length + x1.length + x2_0.length + x2_1.length + x4_1.length + (x4_2.length + szR (tValueS x4_2)) + (x4_3.length + szR (tStrS x4_3)) + (x5.length + szR (tDirS x5)) := by simp [tInDef, tType, tValue, encL_app, encL, encT, szL, szT]; try omega
  refine ⟨_, ?_, subz_SZ _ _⟩
  rw [es]
  refine ct_fn { n0 := 5, ex := [], tk := [] } Tryz.func125 rfl (by kernel_rfl) (by kernel_rfl) rfl ?_
  simp -implicitDefEqProofs [Tryz.f125, tInDef, tType, tValue, encL_app, encL, encT, szL, szT]
  intro hn0
  unfold maxLen at hn0
  simp (disch := omega) only [wrap64]
  refine ⟨fun h => by unfold subz; rw [if_pos (by omega)], fun h0 => ?_⟩
  intro hn1
  unfold maxLen at hn1
  simp (disch := omega) only [wrap64]
  refine ⟨fun h => by unfold subz; rw [if_pos (by omega)], fun h1 => ?_⟩
  have es2 : szL (tType ⟨x2_0, x2_1⟩) = x2_0.length + x2_1.length := by simp [tType, encL_app, encL, encT, szL, szT]; try omega
  obtain ⟨r2, hc, hr2⟩ := c_szType ⟨x2_0, x2_1⟩ ((l - x0.length) - x1.length) _ (by omega) (by omega)
  simp only [tType, encL_app, encL, encT, List.cons_append, List.nil_append, Md.ow_no, tStrS_len, tIntS_len] at hc
  refine callK_of hc ?_
  simp -implicitDefEqProofs
  unfold SZ at hr2
  refine ⟨fun h => by unfold subz; rw [if_pos (by omega)], fun h2 => ?_⟩
  have es4 : szL (tValue ⟨x4_0, x4_1, x4_2, x4_3⟩) = x4_1.length + (x4_2.length + szR (tValueS x4_2)) + (x4_3.length + szR (tStrS x4_3)) := by simp [tValue, encL_app, encL, encT, szL, szT]; try omega
  obtain ⟨r4, hc, hr4⟩ := c_szValue ⟨x4_0, x4_1, x4_2, x4_3⟩ r2 _ (by omega) (by omega)
  simp only [tValue, encL_app, encL, encT, List.cons_append, List.nil_append, Md.ow_no, tStrS_len, tIntS_len, tValueS_len] at hc
  refine callK_of hc ?_
  simp -implicitDefEqProofs
  unfold SZ at hr4
  refine ⟨fun h => by unfold subz; rw [if_pos (by omega)], fun h4 => ?_⟩
  obtain ⟨r5, hc, hr5⟩ := c_szDirS x5 r4 _ (by omega) (by omega)
  refine callK_of hc ?_
  simp -implicitDefEqProofs
  unfold SZ at hr5
  refine ⟨fun h => by unfold subz; rw [if_pos (by omega)], fun h5 => ?_⟩
  unfold subz; rw [if_neg (by omega)]; try omega
theorem c_szInDefS (xs : List DInDef) (l : Int) (K) (h1 : 0 ≤ l) (h2 : l ≤ 1048576) : ∃ r, Ct Tryz.prog 92 [.sl .no xs.length (encR .no (tInDefS xs)), .int .i64 l] K (.int .i64 r) K ∧ SZ l (xs.length + szR (tInDefS xs)) r := by
  refine ⟨_, ?_, subz_SZ _ _⟩
  refine ct_fn { n0 := 6, ex := [], tk := [] } Tryz.func92 rfl (by kernel_rfl) (by kernel_rfl) rfl ?_
  simp -implicitDefEqProofs [Tryz.f92]
  intro hn
  unfold maxLen at hn
  simp (disch := omega) only [wrap64]
  refine ⟨fun h => by unfold subz; rw [if_pos (by omega)], fun h => ?_⟩
  refine wC_loop (fun m s => ∃ i, i ≤ xs.length ∧ m = xs.length - i ∧ ((szR ((tInDefS xs).take i) : Nat) : Int) ≤ l - xs.length ∧
    s = { env := [(0, .sl .no xs.length (encR .no (tInDefS xs))), (1, .int .i64 (l - xs.length - szR ((tInDefS xs).take i))), (4, .int .i64 0), (5, .int .i64 i)], loc := [], K := [] :: K }) xs.length _
    (St.le_of (by simp) (by simp [szR]) rfl rfl) ⟨0, by omega, rfl, by simp [szR]; omega, by simp [szR]⟩ ?_
  rintro m _ ⟨i, hi, rfl, hz, rfl⟩
  rcases Nat.lt_or_ge i xs.length with hlt | hge
  · obtain ⟨x, hx⟩ : ∃ x, xs[i]? = some x := ⟨_, List.getElem?_eq_getElem hlt⟩
    have ea := atInDef (m := .no) hx
    have es := szR_get (tInDefS_get hx)
    have el := szR_take_le (rs := tInDefS xs) (i + 1)
    obtain ⟨r, hc, hr⟩ := c_szInDef x (l - xs.length - szR ((tInDefS xs).take i)) ([] :: K) (by omega) (by omega)
    unfold SZ at hr
    have hek := encL_len (m := .no) (r := tInDef x)
    rw [tInDef_len] at hek
    have htk : (encL .no (tInDef x)).take 10 = encL .no (tInDef x) := List.take_of_length_le (by omega)
    simp -implicitDefEqProofs [hlt, ea, hek, htk, encInDefS_len]
    intro _
    refine callK_of hc ?_
    simp -implicitDefEqProofs
    unfold maxLen at *
    refine ⟨fun h3 => by unfold subz; rw [if_pos (by omega)], fun h3 => ?_⟩
    simp (disch := omega) only [wrap64]
    refine ⟨xs.length - (i + 1), by omega, _, St.le_of (by simp) ?_ rfl (by simp [St.trunc]), i + 1, by omega, rfl, by omega, rfl⟩
    have e3 : r = l - xs.length - (szR ((tInDefS xs).take (i + 1)) : Nat) := by omega
    simp [St.trunc, look, mapV, mapC, e3]
  · have e : i = xs.length := by omega
    subst e
    simp -implicitDefEqProofs
    intro _
    have et : (tInDefS xs).take xs.length = tInDefS xs := List.take_of_length_le (by simp)
    rw [et] at hz ⊢
    unfold subz; rw [if_neg (by omega)]; try omega
theorem c_toInDef (a : DInDef) (K) (hs : szL (tInDef a) ≤ 1048576) : Ct Tryz.prog 133 [.agg (encL .no (tInDef a))] K (.agg (encL .ex (tInDef a))) K := by
  obtain ⟨x0, x1, ⟨x2_0, x2_1⟩, x3, ⟨x4_0, x4_1, x4_2, x4_3⟩, x5⟩ := a
  have es : szL (tInDef ⟨x0, x1, ⟨x2_0, x2_1⟩, x3, ⟨x4_0, x4_1, x4_2, x4_3⟩, x5⟩) = x0.length + x1.length + x2_0.length + x2_1.length + x4_1.length + (x4_2.length + szR (tValueS x4_2)) + (x4_3.length + szR (tStrS x4_3)) + (x5.length + szR (tDirS x5)) := by simp [tInDef, tType, tValue, encL_app, encL, encT, szL, szT]; try omega
  rw [es] at hs
  refine ct_fn { n0 := 4, ex := [], tk := [12, 19, 23, 25] } Tryz.func133 rfl (by kernel_rfl) (by kernel_rfl) rfl ?_
  simp -implicitDefEqProofs [Tryz.f133, tInDef, tType, tValue, encL_app, encL, encT, szL, szT]
  have es2 : szL (tType ⟨x2_0, x2_1⟩) = x2_0.length + x2_1.length := by simp [tType, encL_app, encL, encT, szL, szT]; try omega
  have hc := fun K => c_toType ⟨x2_0, x2_1⟩ K (by omega)
  simp only [tType, encL_app, encL, encT, List.cons_append, List.nil_append, Md.ow_no, Md.ow_ex, tStrS_len, tIntS_len] at hc
  refine callK_of (hc _) ?_
  simp -implicitDefEqProofs
  have es4 : szL (tValue ⟨x4_0, x4_1, x4_2, x4_3⟩) = x4_1.length + (x4_2.length + szR (tValueS x4_2)) + (x4_3.length + szR (tStrS x4_3)) := by simp [tValue, encL_app, encL, encT, szL, szT]; try omega
  have hc := fun K => c_toValue ⟨x4_0, x4_1, x4_2, x4_3⟩ K (by omega)
  simp only [tValue, encL_app, encL, encT, List.cons_append, List.nil_append, Md.ow_no, Md.ow_ex, tStrS_len, tIntS_len, tValueS_len] at hc
  refine callK_of (hc _) ?_
  simp -implicitDefEqProofs
  refine callK_of (c_toDirS x5 _ (by omega)) ?_
  simp -implicitDefEqProofs
theorem c_toInDefS (xs : List DInDef) (K) (hs : xs.length + szR (tInDefS xs) ≤ 1048576) : Ct Tryz.prog 104 [.sl .no xs.length (encR .no (tInDefS xs))] K (.sl (.ex 126) xs.length (encR .ex (tInDefS xs))) K := by
  refine ct_fn { n0 := 5, ex := [], tk := [7, 20, 22], kp := [7], es := true } Tryz.func104 rfl (by kernel_rfl) (by kernel_rfl) rfl ?_
  simp -implicitDefEqProofs [Tryz.f104]
  intro h1
  unfold maxLen at h1
  refine ⟨by unfold maxLen; omega, fun y => ?_⟩
  have e0 : (List.replicate xs.length ([.str [], .str [], .str [], .str [], .bool false, .int .i64 0, .str [], .sl .nil 0 [], .sl .nil 0 [], .sl .nil 0 []] : List AC)).flatten = filled .ex [.str [], .str [], .str [], .str [], .bool false, .int .i64 0, .str [], .sl .nil 0 [], .sl .nil 0 [], .sl .nil 0 []] (tInDefS xs) 0 := by rw [filled_zero]; simp
  rw [e0]
  refine wC_for (fun i => { env := [(0, .sl .no xs.length (encR .no (tInDefS xs))), (2, .sl .nil 0 []), (3, .nam y (.sl (.ex 126) xs.length (filled .ex [.str [], .str [], .str [], .str [], .bool false, .int .i64 0, .str [], .sl .nil 0 [], .sl .nil 0 [], .sl .nil 0 []] (tInDefS xs) i))), (4, .int .i64 i)], loc := [], K := [] :: K }) xs.length (St.le_of (by simp) (by simp) rfl rfl) ?_
  intro i hi
  have efl := filled_len (m := .ex) (z := [.str [], .str [], .str [], .str [], .bool false, .int .i64 0, .str [], .sl .nil 0 [], .sl .nil 0 [], .sl .nil 0 []]) (i := i) (tInDefS_rows (xs := xs)) rfl (by simpa using hi)
  rcases Nat.lt_or_ge i xs.length with hlt | hge
  · obtain ⟨x, hx⟩ : ∃ x, xs[i]? = some x := ⟨_, List.getElem?_eq_getElem hlt⟩
    have ea := atInDef (m := .no) hx
    have ef := filled_next (m := .ex) (z := [.str [], .str [], .str [], .str [], .bool false, .int .i64 0, .str [], .sl .nil 0 [], .sl .nil 0 [], .sl .nil 0 []]) tInDefS_rows rfl (tInDefS_get hx)
    have es := szR_get (tInDefS_get hx)
    have el := szR_take_le (rs := tInDefS xs) (i + 1)
    have hc := fun K => c_toInDef x K (by omega)
    have hek := encL_len (m := .no) (r := tInDef x)
    have hek2 := encL_len (m := .ex) (r := tInDef x)
    have hfl := flat_enc (m := .ex) (r := tInDef x)
    rw [tInDef_len] at hek hek2
    unfold putCells at ef
    rw [hek2] at ef
    have htk : (encL .no (tInDef x)).take 10 = encL .no (tInDef x) := List.take_of_length_le (by omega)
    simp -implicitDefEqProofs [hlt, ea, hek, htk, encInDefS_len]
    intro _
    refine callK_of (hc _) ?_
    have hfl2 : (encL .ex (tInDef x)).all flat = true := List.all_eq_true.2 hfl
    rw [tInDefS_len] at efl
    simp -implicitDefEqProofs [hek2, efl, ef, hfl2, hlt]
    refine ⟨by omega, ?_⟩
    unfold maxLen at *
    simp (disch := omega) only [wrap64]
    exact for_next hlt (St.le_of (by simp) (by simp [St.trunc, look, mapV, mapC]) rfl (by simp [St.trunc]))
  · have e : i = xs.length := by omega
    subst e
    have eq : filled .ex [.str [], .str [], .str [], .str [], .bool false, .int .i64 0, .str [], .sl .nil 0 [], .sl .nil 0 [], .sl .nil 0 []] (tInDefS xs) xs.length = encR .ex (tInDefS xs) := by rw [← filled_all (z := ([.str [], .str [], .str [], .str [], .bool false, .int .i64 0, .str [], .sl .nil 0 [], .sl .nil 0 [], .sl .nil 0 []] : List AC))]; simp
    simp -implicitDefEqProofs [eq]
theorem c_eqInDef (a b : DInDef) (K) : Ct Tryz.prog 145 [.agg (encL .no (tInDef a)), .agg (encL .no (tInDef b))] K (.bool (eqB a b)) K := by
  obtain ⟨x0, x1, ⟨x2_0, x2_1⟩, x3, ⟨x4_0, x4_1, x4_2, x4_3⟩, x5⟩ := a
  obtain ⟨y0, y1, ⟨y2_0, y2_1⟩, y3, ⟨y4_0, y4_1, y4_2, y4_3⟩, y5⟩ := b
  refine ct_fn { n0 := 5, ex := [], tk := [] } Tryz.func145 rfl (by kernel_rfl) (by kernel_rfl) rfl ?_
  simp -implicitDefEqProofs [Tryz.f145, tInDef, tType, tValue, encL_app, encL, encT, szL, szT]
  refine ⟨fun h => eqB_ne fun e => h (by cases e; rfl), fun h0 => ?_⟩
  refine ⟨fun h => eqB_ne fun e => h (by cases e; rfl), fun h1 => ?_⟩
  have hc := fun K => c_eqType ⟨x2_0, x2_1⟩ ⟨y2_0, y2_1⟩ K
  simp only [tType, encL_app, encL, encT, List.cons_append, List.nil_append, Md.ow_no, tStrS_len, tIntS_len] at hc
  refine callK_of (hc _) ?_
  simp -implicitDefEqProofs
  refine ⟨fun h => eqB_ne fun e => (by cases e; rw [eqB_self] at h; cases h), fun h2 => ?_⟩
  rw [eqB_iff] at h2
  refine ⟨fun h => eqB_ne fun e => h (by cases e; rfl), fun h3 => ?_⟩
  have hc := fun K => c_eqValue ⟨x4_0, x4_1, x4_2, x4_3⟩ ⟨y4_0, y4_1, y4_2, y4_3⟩ K
  simp only [tValue, encL_app, encL, encT, List.cons_append, List.nil_append, Md.ow_no, tStrS_len, tIntS_len, tValueS_len] at hc
  refine callK_of (hc _) ?_
  simp -implicitDefEqProofs
  refine ⟨fun h => eqB_ne fun e => (by cases e; rw [eqB_self] at h; cases h), fun h4 => ?_⟩
  rw [eqB_iff] at h4
  refine callK_of (c_eqDirS x5 y5 _) ?_
  simp -implicitDefEqProofs
  refine ⟨fun h => eqB_ne fun e => (by cases e; rw [eqB_self] at h; cases h), fun h5 => ?_⟩
  rw [eqB_iff] at h5
  rw [eqB_iff]
  try cases h0
  try cases h1
  try cases h2
  try cases h3
  try cases h4
  try cases h5
  rfl
theorem c_eqInDefS (xs ys : List DInDef) (K) : Ct Tryz.prog 119 [.sl .no xs.length (encR .no (tInDefS xs)), .sl .no ys.length (encR .no (tInDefS ys))] K (.bool (eqB xs ys)) K := by
  refine ct_fn { n0 := 6, ex := [], tk := [] } Tryz.func119 rfl (by kernel_rfl) (by kernel_rfl) rfl ?_
  simp -implicitDefEqProofs [Tryz.f119]
  intro h1 h2
  refine ⟨fun h => eqB_ne fun e => h (by rw [e]), fun hlen => ?_⟩
  refine wC_loop (fun m s => ∃ i, i ≤ xs.length ∧ m = xs.length - i ∧ xs.take i = ys.take i ∧
    s = { env := [(0, .sl .no xs.length (encR .no (tInDefS xs))), (1, .sl .no ys.length (encR .no (tInDefS ys))), (4, .bool false), (5, .int .i64 i)], loc := [], K := [] :: K }) xs.length _
    (St.le_of (by simp) (by simp) rfl rfl) ⟨0, by omega, rfl, by simp, rfl⟩ ?_
  rintro m _ ⟨i, hi, rfl, hz, rfl⟩
  rcases Nat.lt_or_ge i xs.length with hlt | hge
  · obtain ⟨x, hx⟩ : ∃ x, xs[i]? = some x := ⟨_, List.getElem?_eq_getElem hlt⟩
    obtain ⟨z, hz2⟩ : ∃ x, ys[i]? = some x := ⟨_, List.getElem?_eq_getElem (by omega)⟩
    have ea := atInDef (m := .no) hx
    have eb := atInDef (m := .no) hz2
    have hek := encL_len (m := .no) (r := tInDef x)
    have hek2 := encL_len (m := .no) (r := tInDef z)
    rw [tInDef_len] at hek hek2
    have hc := fun K => c_eqInDef x z K
    have htk : (encL .no (tInDef x)).take 10 = encL .no (tInDef x) := List.take_of_length_le (by omega)
    have htk2 : (encL .no (tInDef z)).take 10 = encL .no (tInDef z) := List.take_of_length_le (by omega)
    simp -implicitDefEqProofs [hlt, ea, eb, hek, hek2, htk, htk2, encInDefS_len]
    intro _
    refine wRun_draw true rfl (by decide +kernel) ?_
    simp -implicitDefEqProofs [hlt, ea, eb, hek, hek2, htk, htk2, encInDefS_len]
    refine ⟨by omega, ?_⟩
    refine callK_of (hc _) ?_
    simp -implicitDefEqProofs
    refine ⟨fun h3 => eqB_ne fun e => (by rw [e, hz2] at hx; cases hx; rw [eqB_self] at h3; cases h3), fun h3 => ?_⟩
    rw [eqB_iff] at h3
    subst h3
    unfold maxLen at *
    simp (disch := omega) only [wrap64]
    refine ⟨xs.length - (i + 1), by omega, _, St.le_of (by simp) ?_ rfl (by simp [St.trunc]), i + 1, by omega, rfl, ?_, rfl⟩
    · simp [St.trunc, look, mapV, mapC]
    · rw [List.take_add_one, List.take_add_one, hz, hx, hz2]
  · have e : i = xs.length := by omega
    subst e
    simp -implicitDefEqProofs
    intro _
    refine (eqB_iff.2 ?_)
    rw [List.take_of_length_le (by omega), List.take_of_length_le (by omega)] at hz
    exact hz
theorem c_szFieldDef (a : DFieldDef) (l : Int) (K) (h1 : 0 ≤ l) (h2 : l ≤ 1048576) : ∃ r, Ct Tryz.prog 124 [.agg (encL .no (tFieldDef a)), .int .i64 l] K (.int .i64 r) K ∧ SZ l (szL (tFieldDef a)) r := by
  obtain ⟨x0, x1, x2, ⟨x3_0, x3_1⟩, x4⟩ := a
  have es : szL (tFieldDef ⟨x0, x1, x2, ⟨x3_0, x3_1⟩, x4⟩) = x0.length + x1.length + (x2.length + szR (tInDefS x2)) + x3_0.length + x3_1.length + (x4.length + szR (tDirS x4)) := by simp [tFieldDef, tType, encL_app, encL, encT, szL, szT]; try omega
  refine ⟨_, ?_, subz_SZ _ _⟩
  rw [es]
  refine ct_fn { n0 := 5, ex := [], tk := [] } Tryz.func124 rfl (by kernel_rfl) (by kernel_rfl) rfl ?_
  simp -implicitDefEqProofs [Tryz.f124, tFieldDef, tType, encL_app, encL, encT, szL, szT]
  intro hn0
  unfold maxLen at hn0
  simp (disch := omega) only [wrap64]
  refine ⟨fun h => by unfold subz; rw [if_pos (by omega)], fun h0 => ?_⟩
  intro hn1
  unfold maxLen at hn1
  simp (disch := omega) only [wrap64]
  refine ⟨fun h => by unfold subz; rw [if_pos (by omega)], fun h1 => ?_⟩
  obtain ⟨r2, hc, hr2⟩ := c_szInDefS x2 ((l - x0.length) - x1.length) _ (by omega) (by omega)
  refine callK_of hc ?_
  simp -implicitDefEqProofs
  unfold SZ at hr2
  refine ⟨fun h => by unfold subz; rw [if_pos (by omega)], fun h2 => ?_⟩
  have es3 : szL (tType ⟨x3_0, x3_1⟩) = x3_0.length + x3_1.length := by simp [tType, encL_app, encL, encT, szL, szT]; try omega
  obtain ⟨r3, hc, hr3⟩ := c_szType ⟨x3_0, x3_1⟩ r2 _ (by omega) (by omega)
  simp only [tType, encL_app, encL, encT, List.cons_append, List.nil_append, Md.ow_no, tStrS_len, tIntS_len] at hc
  refine callK_of hc ?_
  simp -implicitDefEqProofs
  unfold SZ at hr3
  refine ⟨fun h => by unfold subz; rw [if_pos (by omega)], fun h3 => ?_⟩
  obtain ⟨r4, hc, hr4⟩ := c_szDirS x4 r3 _ (by omega) (by omega)
  refine callK_of hc ?_
  simp -implicitDefEqProofs
  unfold SZ at hr4
  refine ⟨fun h => by unfold subz; rw [if_pos (by omega)], fun h4 => ?_⟩
  unfold subz; rw [if_neg (by omega)]; try omega
theorem c_szFieldDefS (xs : List DFieldDef) (l : Int) (K) (h1 : 0 ≤ l) (h2 : l ≤ 1048576) : ∃ r, Ct Tryz.prog 91 [.sl .no xs.length (encR .no (tFieldDefS xs)), .int .i64 l] K (.int .i64 r) K ∧ SZ l (xs.length + szR (tFieldDefS xs)) r := by
  refine ⟨_, ?_, subz_SZ _ _⟩
  refine ct_fn { n0 := 6, ex := [], tk := [] } Tryz.func91 rfl (by kernel_rfl) (by kernel_rfl) rfl ?_
  simp -implicitDefEqProofs [Tryz.f91]
  intro hn
  unfold maxLen at hn
  simp (disch := omega) only [wrap64]
  refine ⟨fun h => by unfold subz; rw [if_pos (by omega)], fun h => ?_⟩
  refine wC_loop (fun m s => ∃ i, i ≤ xs.length ∧ m = xs.length - i ∧ ((szR ((tFieldDefS xs).take i) : Nat) : Int) ≤ l - xs.length ∧
    s = { env := [(0, .sl .no xs.length (encR .no (tFieldDefS xs))), (1, .int .i64 (l - xs.length - szR ((tFieldDefS xs).take i))), (4, .int .i64 0), (5, .int .i64 i)], loc := [], K := [] :: K }) xs.length _
    (St.le_of (by simp) (by simp [szR]) rfl rfl) ⟨0, by omega, rfl, by simp [szR]; omega, by simp [szR]⟩ ?_
  rintro m _ ⟨i, hi, rfl, hz, rfl⟩
  rcases Nat.lt_or_ge i xs.length with hlt | hge
  · obtain ⟨x, hx⟩ : ∃ x, xs[i]? = some x := ⟨_, List.getElem?_eq_getElem hlt⟩
    have ea := atFieldDef (m := .no) hx
    have es := szR_get (tFieldDefS_get hx)
    have el := szR_take_le (rs := tFieldDefS xs) (i + 1)
    obtain ⟨r, hc, hr⟩ := c_szFieldDef x (l - xs.length - szR ((tFieldDefS xs).take i)) ([] :: K) (by omega) (by omega)
    unfold SZ at hr
    have hek := encL_len (m := .no) (r := tFieldDef x)
    rw [tFieldDef_len] at hek
    have htk : (encL .no (tFieldDef x)).take 6 = encL .no (tFieldDef x) := List.take_of_length_le (by omega)
    simp -implicitDefEqProofs [hlt, ea, hek, htk, encFieldDefS_len]
    intro _
    refine callK_of hc ?_
    simp -implicitDefEqProofs
    unfold maxLen at *
    refine ⟨fun h3 => by unfold subz; rw [if_pos (by omega)], fun h3 => ?_⟩
    simp (disch := omega) only [wrap64]
    refine ⟨xs.length - (i + 1), by omega, _, St.le_of (by simp) ?_ rfl (by simp [St.trunc]), i + 1, by omega, rfl, by omega, rfl⟩
    have e3 : r = l - xs.length - (szR ((tFieldDefS xs).take (i + 1)) : Nat) := by omega
    simp [St.trunc, look, mapV, mapC, e3]
  · have e : i = xs.length := by omega
    subst e
    simp -implicitDefEqProofs
    intro _
    have et : (tFieldDefS xs).take xs.length = tFieldDefS xs := List.take_of_length_le (by simp)
    rw [et] at hz ⊢
    unfold subz; rw [if_neg (by omega)]; try omega
theorem c_toFieldDef (a : DFieldDef) (K) (hs : szL (tFieldDef a) ≤ 1048576) : Ct Tryz.prog 132 [.agg (encL .no (tFieldDef a))] K (.agg (encL .ex (tFieldDef a))) K := by
  obtain ⟨x0, x1, x2, ⟨x3_0, x3_1⟩, x4⟩ := a
  have es : szL (tFieldDef ⟨x0, x1, x2, ⟨x3_0, x3_1⟩, x4⟩) = x0.length + x1.length + (x2.length + szR (tInDefS x2)) + x3_0.length + x3_1.length + (x4.length + szR (tDirS x4)) := by simp [tFieldDef, tType, encL_app, encL, encT, szL, szT]; try omega
  rw [es] at hs
  refine ct_fn { n0 := 4, ex := [], tk := [12, 16, 20, 22] } Tryz.func132 rfl (by kernel_rfl) (by kernel_rfl) rfl ?_
  simp -implicitDefEqProofs [Tryz.f132, tFieldDef, tType, encL_app, encL, encT, szL, szT]
  refine callK_of (c_toInDefS x2 _ (by omega)) ?_
  simp -implicitDefEqProofs
  have es3 : szL (tType ⟨x3_0, x3_1⟩) = x3_0.length + x3_1.length := by simp [tType, encL_app, encL, encT, szL, szT]; try omega
  have hc := fun K => c_toType ⟨x3_0, x3_1⟩ K (by omega)
  simp only [tType, encL_app, encL, encT, List.cons_append, List.nil_append, Md.ow_no, Md.ow_ex, tStrS_len, tIntS_len] at hc
  refine callK_of (hc _) ?_
  simp -implicitDefEqProofs
  refine callK_of (c_toDirS x4 _ (by omega)) ?_
  simp -implicitDefEqProofs
theorem c_toFieldDefS (xs : List DFieldDef) (K) (hs : xs.length + szR (tFieldDefS xs) ≤ 1048576) : Ct Tryz.prog 103 [.sl .no xs.length (encR .no (tFieldDefS xs))] K (.sl (.ex 70) xs.length (encR .ex (tFieldDefS xs))) K := by
  refine ct_fn { n0 := 5, ex := [], tk := [7, 20, 22], kp := [7], es := true } Tryz.func103 rfl (by kernel_rfl) (by kernel_rfl) rfl ?_
  simp -implicitDefEqProofs [Tryz.f103]
  intro h1
  unfold maxLen at h1
  refine ⟨by unfold maxLen; omega, fun y => ?_⟩
  have e0 : (List.replicate xs.length ([.str [], .str [], .sl .nil 0 [], .str [], .str [], .sl .nil 0 []] : List AC)).flatten = filled .ex [.str [], .str [], .sl .nil 0 [], .str [], .str [], .sl .nil 0 []] (tFieldDefS xs) 0 := by rw [filled_zero]; simp
  rw [e0]
  refine wC_for (fun i => { env := [(0, .sl .no xs.length (encR .no (tFieldDefS xs))), (2, .sl .nil 0 []), (3, .nam y (.sl (.ex 70) xs.length (filled .ex [.str [], .str [], .sl .nil 0 [], .str [], .str [], .sl .nil 0 []] (tFieldDefS xs) i))), (4, .int .i64 i)], loc := [], K := [] :: K }) xs.length (St.le_of (by simp) (by simp) rfl rfl) ?_
  intro i hi
  have efl := filled_len (m := .ex) (z := [.str [], .str [], .sl .nil 0 [], .str [], .str [], .sl .nil 0 []]) (i := i) (tFieldDefS_rows (xs := xs)) rfl (by simpa using hi)
  rcases Nat.lt_or_ge i xs.length with hlt | hge
  · obtain ⟨x, hx⟩ : ∃ x, xs[i]? = some x := ⟨_, List.getElem?_eq_getElem hlt⟩
    have ea := atFieldDef (m := .no) hx
    have ef := filled_next (m := .ex) (z := [.str [], .str [], .sl .nil 0 [], .str [], .str [], .sl .nil 0 []]) tFieldDefS_rows rfl (tFieldDefS_get hx)
    have es := szR_get (tFieldDefS_get hx)
    have el := szR_take_le (rs := tFieldDefS xs) (i + 1)
    have hc := fun K => c_toFieldDef x K (by omega)
    have hek := encL_len (m := .no) (r := tFieldDef x)
    have hek2 := encL_len (m := .ex) (r := tFieldDef x)
    have hfl := flat_enc (m := .ex) (r := tFieldDef x)
    rw [tFieldDef_len] at hek hek2
    unfold putCells at ef
    rw [hek2] at ef
    have htk : (encL .no (tFieldDef x)).take 6 = encL .no (tFieldDef x) := List.take_of_length_le (by omega)
    simp -implicitDefEqProofs [hlt, ea, hek, htk, encFieldDefS_len]
    intro _
    refine callK_of (hc _) ?_
    have hfl2 : (encL .ex (tFieldDef x)).all flat = true := List.all_eq_true.2 hfl
    rw [tFieldDefS_len] at efl
    simp -implicitDefEqProofs [hek2, efl, ef, hfl2, hlt]
    refine ⟨by omega, ?_⟩
    unfold maxLen at *
    simp (disch := omega) only [wrap64]
    exact for_next hlt (St.le_of (by simp) (by simp [St.trunc, look, mapV, mapC]) rfl (by simp [St.trunc]))
  · have e : i = xs.length := by omega
    subst e
    have eq : filled .ex [.str [], .str [], .sl .nil 0 [], .str [], .str [], .sl .nil 0 []] (tFieldDefS xs) xs.length = encR .ex (tFieldDefS xs) := by rw [← filled_all (z := ([.str [], .str [], .sl .nil 0 [], .str [], .str [], .sl .nil 0 []] : List AC))]; simp
    simp -implicitDefEqProofs [eq]
theorem c_eqFieldDef (a b : DFieldDef) (K) : Ct Tryz.prog 144 [.agg (encL .no (tFieldDef a)), .agg (encL .no (tFieldDef b))] K (.bool (eqB a b)) K := by
  obtain ⟨x0, x1, x2, ⟨x3_0, x3_1⟩, x4⟩ := a
  obtain ⟨y0, y1, y2, ⟨y3_0, y3_1⟩, y4⟩ := b
  refine ct_fn { n0 := 5, ex := [], tk := [] } Tryz.func144 rfl (by kernel_rfl) (by kernel_rfl) rfl ?_
  simp -implicitDefEqProofs [Tryz.f144, tFieldDef, tType, encL_app, encL, encT, szL, szT]
  refine ⟨fun h => eqB_ne fun e => h (by cases e; rfl), fun h0 => ?_⟩
  refine ⟨fun h => eqB_ne fun e => h (by cases e; rfl), fun h1 => ?_⟩
  refine callK_of (c_eqInDefS x2 y2 _) ?_
  simp -implicitDefEqProofs
  refine ⟨fun h => eqB_ne fun e => (by cases e; rw [eqB_self] at h; cases h), fun h2 => ?_⟩
  rw [eqB_iff] at h2
  have hc := fun K => c_eqType ⟨x3_0, x3_1⟩ ⟨y3_0, y3_1⟩ K
  simp only [tType, encL_app, encL, encT, List.cons_append, List.nil_append, Md.ow_no, tStrS_len, tIntS_len] at hc
  refine callK_of (hc _) ?_
  simp -implicitDefEqProofs
  refine ⟨fun h => eqB_ne fun e => (by cases e; rw [eqB_self] at h; cases h), fun h3 => ?_⟩
  rw [eqB_iff] at h3
  refine callK_of (c_eqDirS x4 y4 _) ?_
  simp -implicitDefEqProofs
  refine ⟨fun h => eqB_ne fun e => (by cases e; rw [eqB_self] at h; cases h), fun h4 => ?_⟩
  rw [eqB_iff] at h4
  rw [eqB_iff]
  try cases h0
  try cases h1
  try cases h2
  try cases h3
  try cases h4
  rfl
theorem c_eqFieldDefS (xs ys : List DFieldDef) (K) : Ct Tryz.prog 118 [.sl .no xs.length (encR .no (tFieldDefS xs)), .sl .no ys.length (encR .no (tFieldDefS ys))] K (.bool (eqB xs ys)) K := by
  refine ct_fn { n0 := 6, ex := [], tk := [] } Tryz.func118 rfl (by kernel_rfl) (by kernel_rfl) rfl ?_
  simp -implicitDefEqProofs [Tryz.f118]
  intro h1 h2
  refine ⟨fun h => eqB_ne fun e => h (by rw [e]), fun hlen => ?_⟩
  refine wC_loop (fun m s => ∃ i, i ≤ xs.length ∧ m = xs.length - i ∧ xs.take i = ys.take i ∧
    s = { env := [(0, .sl .no xs.length (encR .no (tFieldDefS xs))), (1, .sl .no ys.length (encR .no (tFieldDefS ys))), (4, .bool false), (5, .int .i64 i)], loc := [], K := [] :: K }) xs.length _
    (St.le_of (by simp) (by simp) rfl rfl) ⟨0, by omega, rfl, by simp, rfl⟩ ?_
  rintro m _ ⟨i, hi, rfl, hz, rfl⟩
  rcases Nat.lt_or_ge i xs.length with hlt | hge
  · obtain ⟨x, hx⟩ : ∃ x, xs[i]? = some x := ⟨_, List.getElem?_eq_getElem hlt⟩
    obtain ⟨z, hz2⟩ : ∃ x, ys[i]? = some x := ⟨_, List.getElem?_eq_getElem (by omega)⟩
    have ea := atFieldDef (m := .no) hx
    have eb := atFieldDef (m := .no) hz2
    have hek := encL_len (m := .no) (r := tFieldDef x)
    have hek2 := encL_len (m := .no) (r := tFieldDef z)
    rw [tFieldDef_len] at hek hek2
    have hc := fun K => c_eqFieldDef x z K
    have htk : (encL .no (tFieldDef x)).take 6 = encL .no (tFieldDef x) := List.take_of_length_le (by omega)
    have htk2 : (encL .no (tFieldDef z)).take 6 = encL .no (tFieldDef z) := List.take_of_length_le (by omega)
    simp -implicitDefEqProofs [hlt, ea, eb, hek, hek2, htk, htk2, encFieldDefS_len]
    intro _
    refine wRun_draw true rfl (by decide +kernel) ?_
    simp -implicitDefEqProofs [hlt, ea, eb, hek, hek2, htk, htk2, encFieldDefS_len]
    refine ⟨by omega, ?_⟩
    refine callK_of (hc _) ?_
    simp -implicitDefEqProofs
    refine ⟨fun h3 => eqB_ne fun e => (by rw [e, hz2] at hx; cases hx; rw [eqB_self] at h3; cases h3), fun h3 => ?_⟩
    rw [eqB_iff] at h3
    subst h3
    unfold maxLen at *
    simp (disch := omega) only [wrap64]
    refine ⟨xs.length - (i + 1), by omega, _, St.le_of (by simp) ?_ rfl (by simp [St.trunc]), i + 1, by omega, rfl, ?_, rfl⟩
    · simp [St.trunc, look, mapV, mapC]
    · rw [List.take_add_one, List.take_add_one, hz, hx, hz2]
  · have e : i = xs.length := by omega
    subst e
    simp -implicitDefEqProofs
    intro _
    refine (eqB_iff.2 ?_)
    rw [List.take_of_length_le (by omega), List.take_of_length_le (by omega)] at hz
    exact hz
theorem c_szEnumDef (a : DEnumDef) (l : Int) (K) (h1 : 0 ≤ l) (h2 : l ≤ 1048576) : ∃ r, Ct Tryz.prog 126 [.agg (encL .no (tEnumDef a)), .int .i64 l] K (.int .i64 r) K ∧ SZ l (szL (tEnumDef a)) r := by
  obtain ⟨x0, x1, x2⟩ := a
  have es : szL (tEnumDef ⟨x0, x1, x2⟩) = x0.length + x1.length + (x2.length + szR (tDirS x2)) := by simp [tEnumDef, encL_app, encL, encT, szL, szT]; try omega
  refine ⟨_, ?_, subz_SZ _ _⟩
  rw [es]
  refine ct_fn { n0 := 5, ex := [], tk := [] } Tryz.func126 rfl (by kernel_rfl) (by kernel_rfl) rfl ?_
  simp -implicitDefEqProofs [Tryz.f126, tEnumDef, encL_app, encL, encT, szL, szT]
  intro hn0
  unfold maxLen at hn0
  simp (disch := omega) only [wrap64]
  refine ⟨fun h => by unfold subz; rw [if_pos (by omega)], fun h0 => ?_⟩
  intro hn1
  unfold maxLen at hn1
  simp (disch := omega) only [wrap64]
  refine ⟨fun h => by unfold subz; rw [if_pos (by omega)], fun h1 => ?_⟩
  obtain ⟨r2, hc, hr2⟩ := c_szDirS x2 ((l - x0.length) - x1.length) _ (by omega) (by omega)
  refine callK_of hc ?_
  simp -implicitDefEqProofs
  unfold SZ at hr2
  refine ⟨fun h => by unfold subz; rw [if_pos (by omega)], fun h2 => ?_⟩
  unfold subz; rw [if_neg (by omega)]; try omega
theorem c_szEnumDefS (xs : List DEnumDef) (l : Int) (K) (h1 : 0 ≤ l) (h2 : l ≤ 1048576) : ∃ r, Ct Tryz.prog 93 [.sl .no xs.length (encR .no (tEnumDefS xs)), .int .i64 l] K (.int .i64 r) K ∧ SZ l (xs.length + szR (tEnumDefS xs)) r := by
  refine ⟨_, ?_, subz_SZ _ _⟩
  refine ct_fn { n0 := 6, ex := [], tk := [] } Tryz.func93 rfl (by kernel_rfl) (by kernel_rfl) rfl ?_
  simp -implicitDefEqProofs [Tryz.f93]
  intro hn
  unfold maxLen at hn
  simp (disch := omega) only [wrap64]
  refine ⟨fun h => by unfold subz; rw [if_pos (by omega)], fun h => ?_⟩
  refine wC_loop (fun m s => ∃ i, i ≤ xs.length ∧ m = xs.length - i ∧ ((szR ((tEnumDefS xs).take i) : Nat) : Int) ≤ l - xs.length ∧
    s = { env := [(0, .sl .no xs.length (encR .no (tEnumDefS xs))), (1, .int .i64 (l - xs.length - szR ((tEnumDefS xs).take i))), (4, .int .i64 0), (5, .int .i64 i)], loc := [], K := [] :: K }) xs.length _
    (St.le_of (by simp) (by simp [szR]) rfl rfl) ⟨0, by omega, rfl, by simp [szR]; omega, by simp [szR]⟩ ?_
  rintro m _ ⟨i, hi, rfl, hz, rfl⟩
  rcases Nat.lt_or_ge i xs.length with hlt | hge
  · obtain ⟨x, hx⟩ : ∃ x, xs[i]? = some x := ⟨_, List.getElem?_eq_getElem hlt⟩
    have ea := atEnumDef (m := .no) hx
    have es := szR_get (tEnumDefS_get hx)
    have el := szR_take_le (rs := tEnumDefS xs) (i + 1)
    obtain ⟨r, hc, hr⟩ := c_szEnumDef x (l - xs.length - szR ((tEnumDefS xs).take i)) ([] :: K) (by omega) (by omega)
    unfold SZ at hr
    have hek := encL_len (m := .no) (r := tEnumDef x)
    rw [tEnumDef_len] at hek
    have htk : (encL .no (tEnumDef x)).take 3 = encL .no (tEnumDef x) := List.take_of_length_le (by omega)
    simp -implicitDefEqProofs [hlt, ea, hek, htk, encEnumDefS_len]
    intro _
    refine callK_of hc ?_
    simp -implicitDefEqProofs
    unfold maxLen at *
    refine ⟨fun h3 => by unfold subz; rw [if_pos (by omega)], fun h3 => ?_⟩
    simp (disch := omega) only [wrap64]
    refine ⟨xs.length - (i + 1), by omega, _, St.le_of (by simp) ?_ rfl (by simp [St.trunc]), i + 1, by omega, rfl, by omega, rfl⟩
    have e3 : r = l - xs.length - (szR ((tEnumDefS xs).take (i + 1)) : Nat) := by omega
    simp [St.trunc, look, mapV, mapC, e3]
  · have e : i = xs.length := by omega
    subst e
    simp -implicitDefEqProofs
    intro _
    have et : (tEnumDefS xs).take xs.length = tEnumDefS xs := List.take_of_length_le (by simp)
    rw [et] at hz ⊢
    unfold subz; rw [if_neg (by omega)]; try omega
theorem c_toEnumDef (a : DEnumDef) (K) (hs : szL (tEnumDef a) ≤ 1048576) : Ct Tryz.prog 134 [.agg (encL .no (tEnumDef a))] K (.agg (encL .ex (tEnumDef a))) K := by
  obtain ⟨x0, x1, x2⟩ := a
  have es : szL (tEnumDef ⟨x0, x1, x2⟩) = x0.length + x1.length + (x2.length + szR (tDirS x2)) := by simp [tEnumDef, encL_app, encL, encT, szL, szT]; try omega
  rw [es] at hs
  refine ct_fn { n0 := 4, ex := [], tk := [12, 14] } Tryz.func134 rfl (by kernel_rfl) (by kernel_rfl) rfl ?_
  simp -implicitDefEqProofs [Tryz.f134, tEnumDef, encL_app, encL, encT, szL, szT]
  refine callK_of (c_toDirS x2 _ (by omega)) ?_
  simp -implicitDefEqProofs
theorem c_toEnumDefS (xs : List DEnumDef) (K) (hs : xs.length + szR (tEnumDefS xs) ≤ 1048576) : Ct Tryz.prog 105 [.sl .no xs.length (encR .no (tEnumDefS xs))] K (.sl (.ex 183) xs.length (encR .ex (tEnumDefS xs))) K := by
  refine ct_fn { n0 := 5, ex := [], tk := [7, 20, 22], kp := [7], es := true } Tryz.func105 rfl (by kernel_rfl) (by kernel_rfl) rfl ?_
  simp -implicitDefEqProofs [Tryz.f105]
  intro h1
  unfold maxLen at h1
  refine ⟨by unfold maxLen; omega, fun y => ?_⟩
  have e0 : (List.replicate xs.length ([.str [], .str [], .sl .nil 0 []] : List AC)).flatten = filled .ex [.str [], .str [], .sl .nil 0 []] (tEnumDefS xs) 0 := by rw [filled_zero]; simp
  rw [e0]
  refine wC_for (fun i => { env := [(0, .sl .no xs.length (encR .no (tEnumDefS xs))), (2, .sl .nil 0 []), (3, .nam y (.sl (.ex 183) xs.length (filled .ex [.str [], .str [], .sl .nil 0 []] (tEnumDefS xs) i))), (4, .int .i64 i)], loc := [], K := [] :: K }) xs.length (St.le_of (by simp) (by simp) rfl rfl) ?_
  intro i hi
  have efl := filled_len (m := .ex) (z := [.str [], .str [], .sl .nil 0 []]) (i := i) (tEnumDefS_rows (xs := xs)) rfl (by simpa using hi)
  rcases Nat.lt_or_ge i xs.length with hlt | hge
  · obtain ⟨x, hx⟩ : ∃ x, xs[i]? = some x := ⟨_, List.getElem?_eq_getElem hlt⟩
    have ea := atEnumDef (m := .no) hx
    have ef := filled_next (m := .ex) (z := [.str [], .str [], .sl .nil 0 []]) tEnumDefS_rows rfl (tEnumDefS_get hx)
    have es := szR_get (tEnumDefS_get hx)
    have el := szR_take_le (rs := tEnumDefS xs) (i + 1)
    have hc := fun K => c_toEnumDef x K (by omega)
    have hek := encL_len (m := .no) (r := tEnumDef x)
    have hek2 := encL_len (m := .ex) (r := tEnumDef x)
    have hfl := flat_enc (m := .ex) (r := tEnumDef x)
    rw [tEnumDef_len] at hek hek2
    unfold putCells at ef
    rw [hek2] at ef
    have htk : (encL .no (tEnumDef x)).take 3 = encL .no (tEnumDef x) := List.take_of_length_le (by omega)
    simp -implicitDefEqProofs [hlt, ea, hek, htk, encEnumDefS_len]
    intro _
    refine callK_of (hc _) ?_
    have hfl2 : (encL .ex (tEnumDef x)).all flat = true := List.all_eq_true.2 hfl
    rw [tEnumDefS_len] at efl
    simp -implicitDefEqProofs [hek2, efl, ef, hfl2, hlt]
    refine ⟨by omega, ?_⟩
    unfold maxLen at *
    simp (disch := omega) only [wrap64]
    exact for_next hlt (St.le_of (by simp) (by simp [St.trunc, look, mapV, mapC]) rfl (by simp [St.trunc]))
  · have e : i = xs.length := by omega
    subst e
    have eq : filled .ex [.str [], .str [], .sl .nil 0 []] (tEnumDefS xs) xs.length = encR .ex (tEnumDefS xs) := by rw [← filled_all (z := ([.str [], .str [], .sl .nil 0 []] : List AC))]; simp
    simp -implicitDefEqProofs [eq]
theorem c_eqEnumDef (a b : DEnumDef) (K) : Ct Tryz.prog 146 [.agg (encL .no (tEnumDef a)), .agg (encL .no (tEnumDef b))] K (.bool (eqB a b)) K := by
  obtain ⟨x0, x1, x2⟩ := a
  obtain ⟨y0, y1, y2⟩ := b
  refine ct_fn { n0 := 5, ex := [], tk := [] } Tryz.func146 rfl (by kernel_rfl) (by kernel_rfl) rfl ?_
  simp -implicitDefEqProofs [Tryz.f146, tEnumDef, encL_app, encL, encT, szL, szT]
  refine ⟨fun h => eqB_ne fun e => h (by cases e; rfl), fun h0 => ?_⟩
  refine ⟨fun h => eqB_ne fun e => h (by cases e; rfl), fun h1 => ?_⟩
  refine callK_of (c_eqDirS x2 y2 _) ?_
  simp -implicitDefEqProofs
  refine ⟨fun h => eqB_ne fun e => (by cases e; rw [eqB_self] at h; cases h), fun h2 => ?_⟩
  rw [eqB_iff] at h2
  rw [eqB_iff]
  try cases h0
  try cases h1
  try cases h2
  rfl
theorem c_eqEnumDefS (xs ys : List DEnumDef) (K) : Ct Tryz.prog 120 [.sl .no xs.length (encR .no (tEnumDefS xs)), .sl .no ys.length (encR .no (tEnumDefS ys))] K (.bool (eqB xs ys)) K := by
  refine ct_fn { n0 := 6, ex := [], tk := [] } Tryz.func120 rfl (by kernel_rfl) (by kernel_rfl) rfl ?_
  simp -implicitDefEqProofs [Tryz.f120]
  intro h1 h2
  refine ⟨fun h => eqB_ne fun e => h (by rw [e]), fun hlen => ?_⟩
  refine wC_loop (fun m s => ∃ i, i ≤ xs.length ∧ m = xs.length - i ∧ xs.take i = ys.take i ∧
    s = { env := [(0, .sl .no xs.length (encR .no (tEnumDefS xs))), (1, .sl .no ys.length (encR .no (tEnumDefS ys))), (4, .bool false), (5, .int .i64 i)], loc := [], K := [] :: K }) xs.length _
    (St.le_of (by simp) (by simp) rfl rfl) ⟨0, by omega, rfl, by simp, rfl⟩ ?_
  rintro m _ ⟨i, hi, rfl, hz, rfl⟩
  rcases Nat.lt_or_ge i xs.length with hlt | hge
  · obtain ⟨x, hx⟩ : ∃ x, xs[i]? = some x := ⟨_, List.getElem?_eq_getElem hlt⟩
    obtain ⟨z, hz2⟩ : ∃ x, ys[i]? = some x := ⟨_, List.getElem?_eq_getElem (by omega)⟩
    have ea := atEnumDef (m := .no) hx
    have eb := atEnumDef (m := .no) hz2
    have hek := encL_len (m := .no) (r := tEnumDef x)
    have hek2 := encL_len (m := .no) (r := tEnumDef z)
    rw [tEnumDef_len] at hek hek2
    have hc := fun K => c_eqEnumDef x z K
    have htk : (encL .no (tEnumDef x)).take 3 = encL .no (tEnumDef x) := List.take_of_length_le (by omega)
    have htk2 : (encL .no (tEnumDef z)).take 3 = encL .no (tEnumDef z) := List.take_of_length_le (by omega)
    simp -implicitDefEqProofs [hlt, ea, eb, hek, hek2, htk, htk2, encEnumDefS_len]
    intro _
    refine wRun_draw true rfl (by decide +kernel) ?_
    simp -implicitDefEqProofs [hlt, ea, eb, hek, hek2, htk, htk2, encEnumDefS_len]
    refine ⟨by omega, ?_⟩
    refine callK_of (hc _) ?_
    simp -implicitDefEqProofs
    refine ⟨fun h3 => eqB_ne fun e => (by rw [e, hz2] at hx; cases hx; rw [eqB_self] at h3; cases h3), fun h3 => ?_⟩
    rw [eqB_iff] at h3
    subst h3
    unfold maxLen at *
    simp (disch := omega) only [wrap64]
    refine ⟨xs.length - (i + 1), by omega, _, St.le_of (by simp) ?_ rfl (by simp [St.trunc]), i + 1, by omega, rfl, ?_, rfl⟩
    · simp [St.trunc, look, mapV, mapC]
    · rw [List.take_add_one, List.take_add_one, hz, hx, hz2]
  · have e : i = xs.length := by omega
    subst e
    simp -implicitDefEqProofs
    intro _
    refine (eqB_iff.2 ?_)
    rw [List.take_of_length_le (by omega), List.take_of_length_le (by omega)] at hz
    exact hz
theorem c_szRoot (a : DRoot) (l : Int) (K) (h1 : 0 ≤ l) (h2 : l ≤ 1048576) : ∃ r, Ct Tryz.prog 55 [.agg (encL .no (tRoot a)), .int .i64 l] K (.int .i64 r) K ∧ SZ l (szL (tRoot a)) r := by
  obtain ⟨x0, x1⟩ := a
  have es : szL (tRoot ⟨x0, x1⟩) = x1.length := by simp [tRoot, encL_app, encL, encT, szL, szT]; try omega
  refine ⟨_, ?_, subz_SZ _ _⟩
  rw [es]
  refine ct_fn { n0 := 5, ex := [], tk := [] } Tryz.func55 rfl (by kernel_rfl) (by kernel_rfl) rfl ?_
  simp -implicitDefEqProofs [Tryz.f55, tRoot, encL_app, encL, encT, szL, szT]
  intro hn1
  unfold maxLen at hn1
  simp (disch := omega) only [wrap64]
  refine ⟨fun h => by unfold subz; rw [if_pos (by omega)], fun h1 => ?_⟩
  unfold subz; rw [if_neg (by omega)]; try omega
theorem c_szRootS (xs : List DRoot) (l : Int) (K) (h1 : 0 ≤ l) (h2 : l ≤ 1048576) : ∃ r, Ct Tryz.prog 24 [.sl .no xs.length (encR .no (tRootS xs)), .int .i64 l] K (.int .i64 r) K ∧ SZ l (xs.length + szR (tRootS xs)) r := by
  refine ⟨_, ?_, subz_SZ _ _⟩
  refine ct_fn { n0 := 6, ex := [], tk := [] } Tryz.func24 rfl (by kernel_rfl) (by kernel_rfl) rfl ?_
  simp -implicitDefEqProofs [Tryz.f24]
  intro hn
  unfold maxLen at hn
  simp (disch := omega) only [wrap64]
  refine ⟨fun h => by unfold subz; rw [if_pos (by omega)], fun h => ?_⟩
  refine wC_loop (fun m s => ∃ i, i ≤ xs.length ∧ m = xs.length - i ∧ ((szR ((tRootS xs).take i) : Nat) : Int) ≤ l - xs.length ∧
    s = { env := [(0, .sl .no xs.length (encR .no (tRootS xs))), (1, .int .i64 (l - xs.length - szR ((tRootS xs).take i))), (4, .int .i64 0), (5, .int .i64 i)], loc := [], K := [] :: K }) xs.length _
    (St.le_of (by simp) (by simp [szR]) rfl rfl) ⟨0, by omega, rfl, by simp [szR]; omega, by simp [szR]⟩ ?_
  rintro m _ ⟨i, hi, rfl, hz, rfl⟩
  rcases Nat.lt_or_ge i xs.length with hlt | hge
  · obtain ⟨x, hx⟩ : ∃ x, xs[i]? = some x := ⟨_, List.getElem?_eq_getElem hlt⟩
    have ea := atRoot (m := .no) hx
    have es := szR_get (tRootS_get hx)
    have el := szR_take_le (rs := tRootS xs) (i + 1)
    obtain ⟨r, hc, hr⟩ := c_szRoot x (l - xs.length - szR ((tRootS xs).take i)) ([] :: K) (by omega) (by omega)
    unfold SZ at hr
    have hek := encL_len (m := .no) (r := tRoot x)
    rw [tRoot_len] at hek
    have htk : (encL .no (tRoot x)).take 2 = encL .no (tRoot x) := List.take_of_length_le (by omega)
    simp -implicitDefEqProofs [hlt, ea, hek, htk, encRootS_len]
    intro _
    refine callK_of hc ?_
    simp -implicitDefEqProofs
    unfold maxLen at *
    refine ⟨fun h3 => by unfold subz; rw [if_pos (by omega)], fun h3 => ?_⟩
    simp (disch := omega) only [wrap64]
    refine ⟨xs.length - (i + 1), by omega, _, St.le_of (by simp) ?_ rfl (by simp [St.trunc]), i + 1, by omega, rfl, by omega, rfl⟩
    have e3 : r = l - xs.length - (szR ((tRootS xs).take (i + 1)) : Nat) := by omega
    simp [St.trunc, look, mapV, mapC, e3]
  · have e : i = xs.length := by omega
    subst e
    simp -implicitDefEqProofs
    intro _
    have et : (tRootS xs).take xs.length = tRootS xs := List.take_of_length_le (by simp)
    rw [et] at hz ⊢
    unfold subz; rw [if_neg (by omega)]; try omega
theorem c_toRoot (a : DRoot) (K) (hs : szL (tRoot a) ≤ 1048576) : Ct Tryz.prog 62 [.agg (encL .no (tRoot a))] K (.agg (encL .ex (tRoot a))) K := by
  obtain ⟨x0, x1⟩ := a
  have es : szL (tRoot ⟨x0, x1⟩) = x1.length := by simp [tRoot, encL_app, encL, encT, szL, szT]; try omega
  rw [es] at hs
  refine ct_fn { n0 := 4, ex := [], tk := [10] } Tryz.func62 rfl (by kernel_rfl) (by kernel_rfl) rfl ?_
  simp -implicitDefEqProofs [Tryz.f62, tRoot, encL_app, encL, encT, szL, szT]
theorem c_toRootS (xs : List DRoot) (K) (hs : xs.length + szR (tRootS xs) ≤ 1048576) : Ct Tryz.prog 28 [.sl .no xs.length (encR .no (tRootS xs))] K (.sl (.ex 112) xs.length (encR .ex (tRootS xs))) K := by
  refine ct_fn { n0 := 5, ex := [], tk := [7, 20, 22], kp := [7], es := true } Tryz.func28 rfl (by kernel_rfl) (by kernel_rfl) rfl ?_
  simp -implicitDefEqProofs [Tryz.f28]
  intro h1
  unfold maxLen at h1
  refine ⟨by unfold maxLen; omega, fun y => ?_⟩
  have e0 : (List.replicate xs.length ([.int .i64 0, .str []] : List AC)).flatten = filled .ex [.int .i64 0, .str []] (tRootS xs) 0 := by rw [filled_zero]; simp
  rw [e0]
  refine wC_for (fun i => { env := [(0, .sl .no xs.length (encR .no (tRootS xs))), (2, .sl .nil 0 []), (3, .nam y (.sl (.ex 112) xs.length (filled .ex [.int .i64 0, .str []] (tRootS xs) i))), (4, .int .i64 i)], loc := [], K := [] :: K }) xs.length (St.le_of (by simp) (by simp) rfl rfl) ?_
  intro i hi
  have efl := filled_len (m := .ex) (z := [.int .i64 0, .str []]) (i := i) (tRootS_rows (xs := xs)) rfl (by simpa using hi)
  rcases Nat.lt_or_ge i xs.length with hlt | hge
  · obtain ⟨x, hx⟩ : ∃ x, xs[i]? = some x := ⟨_, List.getElem?_eq_getElem hlt⟩
    have ea := atRoot (m := .no) hx
    have ef := filled_next (m := .ex) (z := [.int .i64 0, .str []]) tRootS_rows rfl (tRootS_get hx)
    have es := szR_get (tRootS_get hx)
    have el := szR_take_le (rs := tRootS xs) (i + 1)
    have hc := fun K => c_toRoot x K (by omega)
    have hek := encL_len (m := .no) (r := tRoot x)
    have hek2 := encL_len (m := .ex) (r := tRoot x)
    have hfl := flat_enc (m := .ex) (r := tRoot x)
    rw [tRoot_len] at hek hek2
    unfold putCells at ef
    rw [hek2] at ef
    have htk : (encL .no (tRoot x)).take 2 = encL .no (tRoot x) := List.take_of_length_le (by omega)
    simp -implicitDefEqProofs [hlt, ea, hek, htk, encRootS_len]
    intro _
    refine callK_of (hc _) ?_
    have hfl2 : (encL .ex (tRoot x)).all flat = true := List.all_eq_true.2 hfl
    rw [tRootS_len] at efl
    simp -implicitDefEqProofs [hek2, efl, ef, hfl2, hlt]
    refine ⟨by omega, ?_⟩
    unfold maxLen at *
    simp (disch := omega) only [wrap64]
    exact for_next hlt (St.le_of (by simp) (by simp [St.trunc, look, mapV, mapC]) rfl (by simp [St.trunc]))
  · have e : i = xs.length := by omega
    subst e
    have eq : filled .ex [.int .i64 0, .str []] (tRootS xs) xs.length = encR .ex (tRootS xs) := by rw [← filled_all (z := ([.int .i64 0, .str []] : List AC))]; simp
    simp -implicitDefEqProofs [eq]
theorem c_eqRoot (a b : DRoot) (K) : Ct Tryz.prog 74 [.agg (encL .no (tRoot a)), .agg (encL .no (tRoot b))] K (.bool (eqB a b)) K := by
  obtain ⟨x0, x1⟩ := a
  obtain ⟨y0, y1⟩ := b
  refine ct_fn { n0 := 5, ex := [], tk := [] } Tryz.func74 rfl (by kernel_rfl) (by kernel_rfl) rfl ?_
  simp -implicitDefEqProofs [Tryz.f74, tRoot, encL_app, encL, encT, szL, szT]
  refine ⟨fun h => eqB_ne fun e => h (by cases e; rfl), fun h0 => ?_⟩
  refine ⟨fun h => eqB_ne fun e => h (by cases e; rfl), fun h1 => ?_⟩
  rw [eqB_iff]
  try cases h0
  try cases h1
  rfl
theorem c_eqRootS (xs ys : List DRoot) (K) : Ct Tryz.prog 35 [.sl .no xs.length (encR .no (tRootS xs)), .sl .no ys.length (encR .no (tRootS ys))] K (.bool (eqB xs ys)) K := by
  refine ct_fn { n0 := 6, ex := [], tk := [] } Tryz.func35 rfl (by kernel_rfl) (by kernel_rfl) rfl ?_
  simp -implicitDefEqProofs [Tryz.f35]
  intro h1 h2
  refine ⟨fun h => eqB_ne fun e => h (by rw [e]), fun hlen => ?_⟩
  refine wC_loop (fun m s => ∃ i, i ≤ xs.length ∧ m = xs.length - i ∧ xs.take i = ys.take i ∧
    s = { env := [(0, .sl .no xs.length (encR .no (tRootS xs))), (1, .sl .no ys.length (encR .no (tRootS ys))), (4, .bool false), (5, .int .i64 i)], loc := [], K := [] :: K }) xs.length _
    (St.le_of (by simp) (by simp) rfl rfl) ⟨0, by omega, rfl, by simp, rfl⟩ ?_
  rintro m _ ⟨i, hi, rfl, hz, rfl⟩
  rcases Nat.lt_or_ge i xs.length with hlt | hge
  · obtain ⟨x, hx⟩ : ∃ x, xs[i]? = some x := ⟨_, List.getElem?_eq_getElem hlt⟩
    obtain ⟨z, hz2⟩ : ∃ x, ys[i]? = some x := ⟨_, List.getElem?_eq_getElem (by omega)⟩
    have ea := atRoot (m := .no) hx
    have eb := atRoot (m := .no) hz2
    have hek := encL_len (m := .no) (r := tRoot x)
    have hek2 := encL_len (m := .no) (r := tRoot z)
    rw [tRoot_len] at hek hek2
    have hc := fun K => c_eqRoot x z K
    have htk : (encL .no (tRoot x)).take 2 = encL .no (tRoot x) := List.take_of_length_le (by omega)
    have htk2 : (encL .no (tRoot z)).take 2 = encL .no (tRoot z) := List.take_of_length_le (by omega)
    simp -implicitDefEqProofs [hlt, ea, eb, hek, hek2, htk, htk2, encRootS_len]
    intro _
    refine wRun_draw true rfl (by decide +kernel) ?_
    simp -implicitDefEqProofs [hlt, ea, eb, hek, hek2, htk, htk2, encRootS_len]
    refine ⟨by omega, ?_⟩
    refine callK_of (hc _) ?_
    simp -implicitDefEqProofs
    refine ⟨fun h3 => eqB_ne fun e => (by rw [e, hz2] at hx; cases hx; rw [eqB_self] at h3; cases h3), fun h3 => ?_⟩
    rw [eqB_iff] at h3
    subst h3
    unfold maxLen at *
    simp (disch := omega) only [wrap64]
    refine ⟨xs.length - (i + 1), by omega, _, St.le_of (by simp) ?_ rfl (by simp [St.trunc]), i + 1, by omega, rfl, ?_, rfl⟩
    · simp [St.trunc, look, mapV, mapC]
    · rw [List.take_add_one, List.take_add_one, hz, hx, hz2]
  · have e : i = xs.length := by omega
    subst e
    simp -implicitDefEqProofs
    intro _
    refine (eqB_iff.2 ?_)
    rw [List.take_of_length_le (by omega), List.take_of_length_le (by omega)] at hz
    exact hz
theorem c_szDef (a : DDef) (l : Int) (K) (h1 : 0 ≤ l) (h2 : l ≤ 1048576) : ∃ r, Ct Tryz.prog 54 [.agg (encL .no (tDef a)), .int .i64 l] K (.int .i64 r) K ∧ SZ l (szL (tDef a)) r := by
  obtain ⟨x0, x1, x2, x3, x4, x5, x6, x7, x8, x9, x10⟩ := a
  have es : szL (tDef ⟨x0, x1, x2, x3, x4, x5, x6, x7, x8, x9, x10⟩) = x2.length + x3.length + (x4.length + szR (tStrS x4)) + (x5.length + szR (tFieldDefS x5)) + (x6.length + szR (tInDefS x6)) + (x7.length + szR (tEnumDefS x7)) + (x8.length + szR (tRootS x8)) + (x10.length + szR (tDirS x10)) := by simp [tDef, encL_app, encL, encT, szL, szT]; try omega
  refine ⟨_, ?_, subz_SZ _ _⟩
  rw [es]
  refine ct_fn { n0 := 5, ex := [], tk := [] } Tryz.func54 rfl (by kernel_rfl) (by kernel_rfl) rfl ?_
  simp -implicitDefEqProofs [Tryz.f54, tDef, encL_app, encL, encT, szL, szT]
  intro hn2
  unfold maxLen at hn2
  simp (disch := omega) only [wrap64]
  refine ⟨fun h => by unfold subz; rw [if_pos (by omega)], fun h2 => ?_⟩
  intro hn3
  unfold maxLen at hn3
  simp (disch := omega) only [wrap64]
  refine ⟨fun h => by unfold subz; rw [if_pos (by omega)], fun h3 => ?_⟩
  obtain ⟨r4, hc, hr4⟩ := c_szStringS x4 ((l - x2.length) - x3.length) _ (by omega) (by omega)
  refine callK_of hc ?_
  simp -implicitDefEqProofs
  unfold SZ at hr4
  refine ⟨fun h => by unfold subz; rw [if_pos (by omega)], fun h4 => ?_⟩
  obtain ⟨r5, hc, hr5⟩ := c_szFieldDefS x5 r4 _ (by omega) (by omega)
  refine callK_of hc ?_
  simp -implicitDefEqProofs
  unfold SZ at hr5
  refine ⟨fun h => by unfold subz; rw [if_pos (by omega)], fun h5 => ?_⟩
  obtain ⟨r6, hc, hr6⟩ := c_szInDefS x6 r5 _ (by omega) (by omega)
  refine callK_of hc ?_
  simp -implicitDefEqProofs
  unfold SZ at hr6
  refine ⟨fun h => by unfold subz; rw [if_pos (by omega)], fun h6 => ?_⟩
  obtain ⟨r7, hc, hr7⟩ := c_szEnumDefS x7 r6 _ (by omega) (by omega)
  refine callK_of hc ?_
  simp -implicitDefEqProofs
  unfold SZ at hr7
  refine ⟨fun h => by unfold subz; rw [if_pos (by omega)], fun h7 => ?_⟩
  obtain ⟨r8, hc, hr8⟩ := c_szRootS x8 r7 _ (by omega) (by omega)
  refine callK_of hc ?_
  simp -implicitDefEqProofs
  unfold SZ at hr8
  refine ⟨fun h => by unfold subz; rw [if_pos (by omega)], fun h8 => ?_⟩
  obtain ⟨r10, hc, hr10⟩ := c_szDirS x10 r8 _ (by omega) (by omega)
  refine callK_of hc ?_
  simp -implicitDefEqProofs
  unfold SZ at hr10
  refine ⟨fun h => by unfold subz; rw [if_pos (by omega)], fun h10 => ?_⟩
  unfold subz; rw [if_neg (by omega)]; try omega
theorem c_szDefS (xs : List DDef) (l : Int) (K) (h1 : 0 ≤ l) (h2 : l ≤ 1048576) : ∃ r, Ct Tryz.prog 23 [.sl .no xs.length (encR .no (tDefS xs)), .int .i64 l] K (.int .i64 r) K ∧ SZ l (xs.length + szR (tDefS xs)) r := by
  refine ⟨_, ?_, subz_SZ _ _⟩
  refine ct_fn { n0 := 6, ex := [], tk := [] } Tryz.func23 rfl (by kernel_rfl) (by kernel_rfl) rfl ?_
  simp -implicitDefEqProofs [Tryz.f23]
  intro hn
  unfold maxLen at hn
  simp (disch := omega) only [wrap64]
  refine ⟨fun h => by unfold subz; rw [if_pos (by omega)], fun h => ?_⟩
  refine wC_loop (fun m s => ∃ i, i ≤ xs.length ∧ m = xs.length - i ∧ ((szR ((tDefS xs).take i) : Nat) : Int) ≤ l - xs.length ∧
    s = { env := [(0, .sl .no xs.length (encR .no (tDefS xs))), (1, .int .i64 (l - xs.length - szR ((tDefS xs).take i))), (4, .int .i64 0), (5, .int .i64 i)], loc := [], K := [] :: K }) xs.length _
    (St.le_of (by simp) (by simp [szR]) rfl rfl) ⟨0, by omega, rfl, by simp [szR]; omega, by simp [szR]⟩ ?_
  rintro m _ ⟨i, hi, rfl, hz, rfl⟩
  rcases Nat.lt_or_ge i xs.length with hlt | hge
  · obtain ⟨x, hx⟩ : ∃ x, xs[i]? = some x := ⟨_, List.getElem?_eq_getElem hlt⟩
    have ea := atDef (m := .no) hx
    have es := szR_get (tDefS_get hx)
    have el := szR_take_le (rs := tDefS xs) (i + 1)
    obtain ⟨r, hc, hr⟩ := c_szDef x (l - xs.length - szR ((tDefS xs).take i)) ([] :: K) (by omega) (by omega)
    unfold SZ at hr
    have hek := encL_len (m := .no) (r := tDef x)
    rw [tDef_len] at hek
    have htk : (encL .no (tDef x)).take 11 = encL .no (tDef x) := List.take_of_length_le (by omega)
    simp -implicitDefEqProofs [hlt, ea, hek, htk, encDefS_len]
    intro _
    refine callK_of hc ?_
    simp -implicitDefEqProofs
    unfold maxLen at *
    refine ⟨fun h3 => by unfold subz; rw [if_pos (by omega)], fun h3 => ?_⟩
    simp (disch := omega) only [wrap64]
    refine ⟨xs.length - (i + 1), by omega, _, St.le_of (by simp) ?_ rfl (by simp [St.trunc]), i + 1, by omega, rfl, by omega, rfl⟩
    have e3 : r = l - xs.length - (szR ((tDefS xs).take (i + 1)) : Nat) := by omega
    simp [St.trunc, look, mapV, mapC, e3]
  · have e : i = xs.length := by omega
    subst e
    simp -implicitDefEqProofs
    intro _
    have et : (tDefS xs).take xs.length = tDefS xs := List.take_of_length_le (by simp)
    rw [et] at hz ⊢
    unfold subz; rw [if_neg (by omega)]; try omega
theorem c_toDef (a : DDef) (K) (hs : szL (tDef a) ≤ 1048576) : Ct Tryz.prog 61 [.agg (encL .no (tDef a))] K (.agg (encL .ex (tDef a))) K := by
  obtain ⟨x0, x1, x2, x3, x4, x5, x6, x7, x8, x9, x10⟩ := a
  have es : szL (tDef ⟨x0, x1, x2, x3, x4, x5, x6, x7, x8, x9, x10⟩) = x2.length + x3.length + (x4.length + szR (tStrS x4)) + (x5.length + szR (tFieldDefS x5)) + (x6.length + szR (tInDefS x6)) + (x7.length + szR (tEnumDefS x7)) + (x8.length + szR (tRootS x8)) + (x10.length + szR (tDirS x10)) := by simp [tDef, encL_app, encL, encT, szL, szT]; try omega
  rw [es] at hs
  refine ct_fn { n0 := 4, ex := [], tk := [18, 22, 26, 30, 34, 41, 43] } Tryz.func61 rfl (by kernel_rfl) (by kernel_rfl) rfl ?_
  simp -implicitDefEqProofs [Tryz.f61, tDef, encL_app, encL, encT, szL, szT]
  refine callK_of (c_toStringS x4 _ (by omega)) ?_
  simp -implicitDefEqProofs
  refine callK_of (c_toFieldDefS x5 _ (by omega)) ?_
  simp -implicitDefEqProofs
  refine callK_of (c_toInDefS x6 _ (by omega)) ?_
  simp -implicitDefEqProofs
  refine callK_of (c_toEnumDefS x7 _ (by omega)) ?_
  simp -implicitDefEqProofs
  refine callK_of (c_toRootS x8 _ (by omega)) ?_
  simp -implicitDefEqProofs
  refine callK_of (c_toDirS x10 _ (by omega)) ?_
  simp -implicitDefEqProofs
theorem c_toDefS (xs : List DDef) (K) (hs : xs.length + szR (tDefS xs) ≤ 1048576) : Ct Tryz.prog 27 [.sl .no xs.length (encR .no (tDefS xs))] K (.sl (.ex 110) xs.length (encR .ex (tDefS xs))) K := by
  refine ct_fn { n0 := 5, ex := [], tk := [7, 20, 22], kp := [7], es := true } Tryz.func27 rfl (by kernel_rfl) (by kernel_rfl) rfl ?_
  simp -implicitDefEqProofs [Tryz.f27]
  intro h1
  unfold maxLen at h1
  refine ⟨by unfold maxLen; omega, fun y => ?_⟩
  have e0 : (List.replicate xs.length ([.int .i64 0, .bool false, .str [], .str [], .sl .nil 0 [], .sl .nil 0 [], .sl .nil 0 [], .sl .nil 0 [], .sl .nil 0 [], .bool false, .sl .nil 0 []] : List AC)).flatten = filled .ex [.int .i64 0, .bool false, .str [], .str [], .sl .nil 0 [], .sl .nil 0 [], .sl .nil 0 [], .sl .nil 0 [], .sl .nil 0 [], .bool false, .sl .nil 0 []] (tDefS xs) 0 := by rw [filled_zero]; simp
  rw [e0]
  refine wC_for (fun i => { env := [(0, .sl .no xs.length (encR .no (tDefS xs))), (2, .sl .nil 0 []), (3, .nam y (.sl (.ex 110) xs.length (filled .ex [.int .i64 0, .bool false, .str [], .str [], .sl .nil 0 [], .sl .nil 0 [], .sl .nil 0 [], .sl .nil 0 [], .sl .nil 0 [], .bool false, .sl .nil 0 []] (tDefS xs) i))), (4, .int .i64 i)], loc := [], K := [] :: K }) xs.length (St.le_of (by simp) (by simp) rfl rfl) ?_
  intro i hi
  have efl := filled_len (m := .ex) (z := [.int .i64 0, .bool false, .str [], .str [], .sl .nil 0 [], .sl .nil 0 [], .sl .nil 0 [], .sl .nil 0 [], .sl .nil 0 [], .bool false, .sl .nil 0 []]) (i := i) (tDefS_rows (xs := xs)) rfl (by simpa using hi)
  rcases Nat.lt_or_ge i xs.length with hlt | hge
  · obtain ⟨x, hx⟩ : ∃ x, xs[i]? = some x := ⟨_, List.getElem?_eq_getElem hlt⟩
    have ea := atDef (m := .no) hx
    have ef := filled_next (m := .ex) (z := [.int .i64 0, .bool false, .str [], .str [], .sl .nil 0 [], .sl .nil 0 [], .sl .nil 0 [], .sl .nil 0 [], .sl .nil 0 [], .bool false, .sl .nil 0 []]) tDefS_rows rfl (tDefS_get hx)
    have es := szR_get (tDefS_get hx)
    have el := szR_take_le (rs := tDefS xs) (i + 1)
    have hc := fun K => c_toDef x K (by omega)
    have hek := encL_len (m := .no) (r := tDef x)
    have hek2 := encL_len (m := .ex) (r := tDef x)
    have hfl := flat_enc (m := .ex) (r := tDef x)
    rw [tDef_len] at hek hek2
    unfold putCells at ef
    rw [hek2] at ef
    have htk : (encL .no (tDef x)).take 11 = encL .no (tDef x) := List.take_of_length_le (by omega)
    simp -implicitDefEqProofs [hlt, ea, hek, htk, encDefS_len]
    intro _
    refine callK_of (hc _) ?_
    have hfl2 : (encL .ex (tDef x)).all flat = true := List.all_eq_true.2 hfl
    rw [tDefS_len] at efl
    simp -implicitDefEqProofs [hek2, efl, ef, hfl2, hlt]
    refine ⟨by omega, ?_⟩
    unfold maxLen at *
    simp (disch := omega) only [wrap64]
    exact for_next hlt (St.le_of (by simp) (by simp [St.trunc, look, mapV, mapC]) rfl (by simp [St.trunc]))
  · have e : i = xs.length := by omega
    subst e
    have eq : filled .ex [.int .i64 0, .bool false, .str [], .str [], .sl .nil 0 [], .sl .nil 0 [], .sl .nil 0 [], .sl .nil 0 [], .sl .nil 0 [], .bool false, .sl .nil 0 []] (tDefS xs) xs.length = encR .ex (tDefS xs) := by rw [← filled_all (z := ([.int .i64 0, .bool false, .str [], .str [], .sl .nil 0 [], .sl .nil 0 [], .sl .nil 0 [], .sl .nil 0 [], .sl .nil 0 [], .bool false, .sl .nil 0 []] : List AC))]; simp
    simp -implicitDefEqProofs [eq]
theorem c_eqDef (a b : DDef) (K) : Ct Tryz.prog 73 [.agg (encL .no (tDef a)), .agg (encL .no (tDef b))] K (.bool (eqB a b)) K := by
  obtain ⟨x0, x1, x2, x3, x4, x5, x6, x7, x8, x9, x10⟩ := a
  obtain ⟨y0, y1, y2, y3, y4, y5, y6, y7, y8, y9, y10⟩ := b
  refine ct_fn { n0 := 5, ex := [], tk := [] } Tryz.func73 rfl (by kernel_rfl) (by kernel_rfl) rfl ?_
  simp -implicitDefEqProofs [Tryz.f73, tDef, encL_app, encL, encT, szL, szT]
  refine ⟨fun h => eqB_ne fun e => h (by cases e; rfl), fun h0 => ?_⟩
  refine ⟨fun h => eqB_ne fun e => h (by cases e; rfl), fun h1 => ?_⟩
  refine ⟨fun h => eqB_ne fun e => h (by cases e; rfl), fun h2 => ?_⟩
  refine ⟨fun h => eqB_ne fun e => h (by cases e; rfl), fun h3 => ?_⟩
  refine callK_of (c_eqStringS x4 y4 _) ?_
  simp -implicitDefEqProofs
  refine ⟨fun h => eqB_ne fun e => (by cases e; rw [eqB_self] at h; cases h), fun h4 => ?_⟩
  rw [eqB_iff] at h4
  refine callK_of (c_eqFieldDefS x5 y5 _) ?_
  simp -implicitDefEqProofs
  refine ⟨fun h => eqB_ne fun e => (by cases e; rw [eqB_self] at h; cases h), fun h5 => ?_⟩
  rw [eqB_iff] at h5
  refine callK_of (c_eqInDefS x6 y6 _) ?_
  simp -implicitDefEqProofs
  refine ⟨fun h => eqB_ne fun e => (by cases e; rw [eqB_self] at h; cases h), fun h6 => ?_⟩
  rw [eqB_iff] at h6
  refine callK_of (c_eqEnumDefS x7 y7 _) ?_
  simp -implicitDefEqProofs
  refine ⟨fun h => eqB_ne fun e => (by cases e; rw [eqB_self] at h; cases h), fun h7 => ?_⟩
  rw [eqB_iff] at h7
  refine callK_of (c_eqRootS x8 y8 _) ?_
  simp -implicitDefEqProofs
  refine ⟨fun h => eqB_ne fun e => (by cases e; rw [eqB_self] at h; cases h), fun h8 => ?_⟩
  rw [eqB_iff] at h8
  refine ⟨fun h => eqB_ne fun e => h (by cases e; rfl), fun h9 => ?_⟩
  refine callK_of (c_eqDirS x10 y10 _) ?_
  simp -implicitDefEqProofs
  refine ⟨fun h => eqB_ne fun e => (by cases e; rw [eqB_self] at h; cases h), fun h10 => ?_⟩
  rw [eqB_iff] at h10
  rw [eqB_iff]
  try cases h0
  try cases h1
  try cases h2
  try cases h3
  try cases h4
  try cases h5
  try cases h6
  try cases h7
  try cases h8
  try cases h9
  try cases h10
  rfl
theorem c_eqDefS (xs ys : List DDef) (K) : Ct Tryz.prog 34 [.sl .no xs.length (encR .no (tDefS xs)), .sl .no ys.length (encR .no (tDefS ys))] K (.bool (eqB xs ys)) K := by
  refine ct_fn { n0 := 6, ex := [], tk := [] } Tryz.func34 rfl (by kernel_rfl) (by kernel_rfl) rfl ?_
  simp -implicitDefEqProofs [Tryz.f34]
  intro h1 h2
  refine ⟨fun h => eqB_ne fun e => h (by rw [e]), fun hlen => ?_⟩
  refine wC_loop (fun m s => ∃ i, i ≤ xs.length ∧ m = xs.length - i ∧ xs.take i = ys.take i ∧
    s = { env := [(0, .sl .no xs.length (encR .no (tDefS xs))), (1, .sl .no ys.length (encR .no (tDefS ys))), (4, .bool false), (5, .int .i64 i)], loc := [], K := [] :: K }) xs.length _
    (St.le_of (by simp) (by simp) rfl rfl) ⟨0, by omega, rfl, by simp, rfl⟩ ?_
  rintro m _ ⟨i, hi, rfl, hz, rfl⟩
  rcases Nat.lt_or_ge i xs.length with hlt | hge
  · obtain ⟨x, hx⟩ : ∃ x, xs[i]? = some x := ⟨_, List.getElem?_eq_getElem hlt⟩
    obtain ⟨z, hz2⟩ : ∃ x, ys[i]? = some x := ⟨_, List.getElem?_eq_getElem (by omega)⟩
    have ea := atDef (m := .no) hx
    have eb := atDef (m := .no) hz2
    have hek := encL_len (m := .no) (r := tDef x)
    have hek2 := encL_len (m := .no) (r := tDef z)
    rw [tDef_len] at hek hek2
    have hc := fun K => c_eqDef x z K
    have htk : (encL .no (tDef x)).take 11 = encL .no (tDef x) := List.take_of_length_le (by omega)
    have htk2 : (encL .no (tDef z)).take 11 = encL .no (tDef z) := List.take_of_length_le (by omega)
    simp -implicitDefEqProofs [hlt, ea, eb, hek, hek2, htk, htk2, encDefS_len]
    intro _
    refine wRun_draw true rfl (by decide +kernel) ?_
    simp -implicitDefEqProofs [hlt, ea, eb, hek, hek2, htk, htk2, encDefS_len]
    refine ⟨by omega, ?_⟩
    refine callK_of (hc _) ?_
    simp -implicitDefEqProofs
    refine ⟨fun h3 => eqB_ne fun e => (by rw [e, hz2] at hx; cases hx; rw [eqB_self] at h3; cases h3), fun h3 => ?_⟩
    rw [eqB_iff] at h3
    subst h3
    unfold maxLen at *
    simp (disch := omega) only [wrap64]
    refine ⟨xs.length - (i + 1), by omega, _, St.le_of (by simp) ?_ rfl (by simp [St.trunc]), i + 1, by omega, rfl, ?_, rfl⟩
    · simp [St.trunc, look, mapV, mapC]
    · rw [List.take_add_one, List.take_add_one, hz, hx, hz2]
  · have e : i = xs.length := by omega
    subst e
    simp -implicitDefEqProofs
    intro _
    refine (eqB_iff.2 ?_)
    rw [List.take_of_length_le (by omega), List.take_of_length_le (by omega)] at hz
    exact hz
theorem c_szSchema (a : DSchema) (l : Int) (K) (h1 : 0 ≤ l) (h2 : l ≤ 1048576) : ∃ r, Ct Tryz.prog 5 [.agg (encL .no (tSchema a)), .int .i64 l] K (.int .i64 r) K ∧ SZ l (szL (tSchema a)) r := by
  obtain ⟨x0, x1, x2⟩ := a
  have es : szL (tSchema ⟨x0, x1, x2⟩) = (x0.length + szR (tDefS x0)) + (x1.length + szR (tDefS x1)) + (x2.length + szR (tRootS x2)) := by simp [tSchema, encL_app, encL, encT, szL, szT]; try omega
  refine ⟨_, ?_, subz_SZ _ _⟩
  rw [es]
  refine ct_fn { n0 := 5, ex := [], tk := [] } Tryz.func5 rfl (by kernel_rfl) (by kernel_rfl) rfl ?_
  simp -implicitDefEqProofs [Tryz.f5, tSchema, encL_app, encL, encT, szL, szT]
  obtain ⟨r0, hc, hr0⟩ := c_szDefS x0 l _ (by omega) (by omega)
  refine callK_of hc ?_
  simp -implicitDefEqProofs
  unfold SZ at hr0
  refine ⟨fun h => by unfold subz; rw [if_pos (by omega)], fun h0 => ?_⟩
  obtain ⟨r1, hc, hr1⟩ := c_szDefS x1 r0 _ (by omega) (by omega)
  refine callK_of hc ?_
  simp -implicitDefEqProofs
  unfold SZ at hr1
  refine ⟨fun h => by unfold subz; rw [if_pos (by omega)], fun h1 => ?_⟩
  obtain ⟨r2, hc, hr2⟩ := c_szRootS x2 r1 _ (by omega) (by omega)
  refine callK_of hc ?_
  simp -implicitDefEqProofs
  unfold SZ at hr2
  refine ⟨fun h => by unfold subz; rw [if_pos (by omega)], fun h2 => ?_⟩
  unfold subz; rw [if_neg (by omega)]; try omega
theorem c_toSchema (a : DSchema) (K) (hs : szL (tSchema a) ≤ 1048576) : Ct Tryz.prog 8 [.agg (encL .no (tSchema a))] K (.agg (encL .ex (tSchema a))) K := by
  obtain ⟨x0, x1, x2⟩ := a
  have es : szL (tSchema ⟨x0, x1, x2⟩) = (x0.length + szR (tDefS x0)) + (x1.length + szR (tDefS x1)) + (x2.length + szR (tRootS x2)) := by simp [tSchema, encL_app, encL, encT, szL, szT]; try omega
  rw [es] at hs
  refine ct_fn { n0 := 4, ex := [], tk := [6, 10, 14, 16] } Tryz.func8 rfl (by kernel_rfl) (by kernel_rfl) rfl ?_
  simp -implicitDefEqProofs [Tryz.f8, tSchema, encL_app, encL, encT, szL, szT]
  refine callK_of (c_toDefS x0 _ (by omega)) ?_
  simp -implicitDefEqProofs
  refine callK_of (c_toDefS x1 _ (by omega)) ?_
  simp -implicitDefEqProofs
  refine callK_of (c_toRootS x2 _ (by omega)) ?_
  simp -implicitDefEqProofs
theorem c_eqSchema (a b : DSchema) (K) : Ct Tryz.prog 12 [.agg (encL .no (tSchema a)), .agg (encL .no (tSchema b))] K (.bool (eqB a b)) K := by
  obtain ⟨x0, x1, x2⟩ := a
  obtain ⟨y0, y1, y2⟩ := b
  refine ct_fn { n0 := 5, ex := [], tk := [] } Tryz.func12 rfl (by kernel_rfl) (by kernel_rfl) rfl ?_
  simp -implicitDefEqProofs [Tryz.f12, tSchema, encL_app, encL, encT, szL, szT]
  refine callK_of (c_eqDefS x0 y0 _) ?_
  simp -implicitDefEqProofs
  refine ⟨fun h => eqB_ne fun e => (by cases e; rw [eqB_self] at h; cases h), fun h0 => ?_⟩
  rw [eqB_iff] at h0
  refine callK_of (c_eqDefS x1 y1 _) ?_
  simp -implicitDefEqProofs
  refine ⟨fun h => eqB_ne fun e => (by cases e; rw [eqB_self] at h; cases h), fun h1 => ?_⟩
  rw [eqB_iff] at h1
  refine callK_of (c_eqRootS x2 y2 _) ?_
  simp -implicitDefEqProofs
  refine ⟨fun h => eqB_ne fun e => (by cases e; rw [eqB_self] at h; cases h), fun h2 => ?_⟩
  rw [eqB_iff] at h2
  rw [eqB_iff]
  try cases h0
  try cases h1
  try cases h2
  rfl
theorem c_eqUse (a b : DUse) (K) : Ct Tryz.prog 33 [.agg (encL .no (tUse a)), .agg (encL .no (tUse b))] K (.bool (eqB a b)) K := by
  obtain ⟨x0, ⟨x1_0, x1_1⟩, x2, x3⟩ := a
  obtain ⟨y0, ⟨y1_0, y1_1⟩, y2, y3⟩ := b
  refine ct_fn { n0 := 5, ex := [], tk := [] } Tryz.func33 rfl (by kernel_rfl) (by kernel_rfl) rfl ?_
  simp -implicitDefEqProofs [Tryz.f33, tUse, tType, encL_app, encL, encT, szL, szT]
  refine ⟨fun h => eqB_ne fun e => h (by cases e; rfl), fun h0 => ?_⟩
  have hc := fun K => c_eqType ⟨x1_0, x1_1⟩ ⟨y1_0, y1_1⟩ K
  simp only [tType, encL_app, encL, encT, List.cons_append, List.nil_append, Md.ow_no, tStrS_len, tIntS_len] at hc
  refine callK_of (hc _) ?_
  simp -implicitDefEqProofs
  refine ⟨fun h => eqB_ne fun e => (by cases e; rw [eqB_self] at h; cases h), fun h1 => ?_⟩
  rw [eqB_iff] at h1
  refine ⟨fun h => eqB_ne fun e => h (by cases e; rfl), fun h2 => ?_⟩
  refine ⟨fun h => eqB_ne fun e => h (by cases e; rfl), fun h3 => ?_⟩
  rw [eqB_iff]
  try cases h0
  try cases h1
  try cases h2
  try cases h3
  rfl
theorem c_eqUseS (xs ys : List DUse) (K) : Ct Tryz.prog 11 [.sl .no xs.length (encR .no (tUseS xs)), .sl .no ys.length (encR .no (tUseS ys))] K (.bool (eqB xs ys)) K := by
  refine ct_fn { n0 := 6, ex := [], tk := [] } Tryz.func11 rfl (by kernel_rfl) (by kernel_rfl) rfl ?_
  simp -implicitDefEqProofs [Tryz.f11]
  intro h1 h2
  refine ⟨fun h => eqB_ne fun e => h (by rw [e]), fun hlen => ?_⟩
  refine wC_loop (fun m s => ∃ i, i ≤ xs.length ∧ m = xs.length - i ∧ xs.take i = ys.take i ∧
    s = { env := [(0, .sl .no xs.length (encR .no (tUseS xs))), (1, .sl .no ys.length (encR .no (tUseS ys))), (4, .bool false), (5, .int .i64 i)], loc := [], K := [] :: K }) xs.length _
    (St.le_of (by simp) (by simp) rfl rfl) ⟨0, by omega, rfl, by simp, rfl⟩ ?_
  rintro m _ ⟨i, hi, rfl, hz, rfl⟩
  rcases Nat.lt_or_ge i xs.length with hlt | hge
  · obtain ⟨x, hx⟩ : ∃ x, xs[i]? = some x := ⟨_, List.getElem?_eq_getElem hlt⟩
    obtain ⟨z, hz2⟩ : ∃ x, ys[i]? = some x := ⟨_, List.getElem?_eq_getElem (by omega)⟩
    have ea := atUse (m := .no) hx
    have eb := atUse (m := .no) hz2
    have hek := encL_len (m := .no) (r := tUse x)
    have hek2 := encL_len (m := .no) (r := tUse z)
    rw [tUse_len] at hek hek2
    have hc := fun K => c_eqUse x z K
    have htk : (encL .no (tUse x)).take 5 = encL .no (tUse x) := List.take_of_length_le (by omega)
    have htk2 : (encL .no (tUse z)).take 5 = encL .no (tUse z) := List.take_of_length_le (by omega)
    simp -implicitDefEqProofs [hlt, ea, eb, hek, hek2, htk, htk2, encUseS_len]
    intro _
    refine wRun_draw true rfl (by decide +kernel) ?_
    simp -implicitDefEqProofs [hlt, ea, eb, hek, hek2, htk, htk2, encUseS_len]
    refine ⟨by omega, ?_⟩
    refine callK_of (hc _) ?_
    simp -implicitDefEqProofs
    refine ⟨fun h3 => eqB_ne fun e => (by rw [e, hz2] at hx; cases hx; rw [eqB_self] at h3; cases h3), fun h3 => ?_⟩
    rw [eqB_iff] at h3
    subst h3
    unfold maxLen at *
    simp (disch := omega) only [wrap64]
    refine ⟨xs.length - (i + 1), by omega, _, St.le_of (by simp) ?_ rfl (by simp [St.trunc]), i + 1, by omega, rfl, ?_, rfl⟩
    · simp [St.trunc, look, mapV, mapC]
    · rw [List.take_add_one, List.take_add_one, hz, hx, hz2]
  · have e : i = xs.length := by omega
    subst e
    simp -implicitDefEqProofs
    intro _
    refine (eqB_iff.2 ?_)
    rw [List.take_of_length_le (by omega), List.take_of_length_le (by omega)] at hz
    exact hz
theorem c_eqPlace (a b : DPlace) (K) : Ct Tryz.prog 50 [.agg (encL .no (tPlace a)), .agg (encL .no (tPlace b))] K (.bool (eqB a b)) K := by
  obtain ⟨x0, ⟨x1_0, x1_1, x1_2, x1_3, x1_4, x1_5, x1_6⟩⟩ := a
  obtain ⟨y0, ⟨y1_0, y1_1, y1_2, y1_3, y1_4, y1_5, y1_6⟩⟩ := b
  refine ct_fn { n0 := 5, ex := [], tk := [] } Tryz.func50 rfl (by kernel_rfl) (by kernel_rfl) rfl ?_
  simp -implicitDefEqProofs [Tryz.f50, tPlace, tSel, encL_app, encL, encT, szL, szT]
  refine ⟨fun h => eqB_ne fun e => h (by cases e; rfl), fun h0 => ?_⟩
  have hc := fun K => c_eqSel ⟨x1_0, x1_1, x1_2, x1_3, x1_4, x1_5, x1_6⟩ ⟨y1_0, y1_1, y1_2, y1_3, y1_4, y1_5, y1_6⟩ K
  simp only [tSel, encL_app, encL, encT, List.cons_append, List.nil_append, Md.ow_no, tStrS_len, tIntS_len, tArgS_len, tDirS_len, tSelS_len] at hc
  refine callK_of (hc _) ?_
  simp -implicitDefEqProofs
  refine ⟨fun h => eqB_ne fun e => (by cases e; rw [eqB_self] at h; cases h), fun h1 => ?_⟩
  rw [eqB_iff] at h1
  rw [eqB_iff]
  try cases h0
  try cases h1
  rfl
theorem c_eqPlaceS (xs ys : List DPlace) (K) : Ct Tryz.prog 20 [.sl .no xs.length (encR .no (tPlaceS xs)), .sl .no ys.length (encR .no (tPlaceS ys))] K (.bool (eqB xs ys)) K := by
  refine ct_fn { n0 := 6, ex := [], tk := [] } Tryz.func20 rfl (by kernel_rfl) (by kernel_rfl) rfl ?_
  simp -implicitDefEqProofs [Tryz.f20]
  intro h1 h2
  refine ⟨fun h => eqB_ne fun e => h (by rw [e]), fun hlen => ?_⟩
  refine wC_loop (fun m s => ∃ i, i ≤ xs.length ∧ m = xs.length - i ∧ xs.take i = ys.take i ∧
    s = { env := [(0, .sl .no xs.length (encR .no (tPlaceS xs))), (1, .sl .no ys.length (encR .no (tPlaceS ys))), (4, .bool false), (5, .int .i64 i)], loc := [], K := [] :: K }) xs.length _
    (St.le_of (by simp) (by simp) rfl rfl) ⟨0, by omega, rfl, by simp, rfl⟩ ?_
  rintro m _ ⟨i, hi, rfl, hz, rfl⟩
  rcases Nat.lt_or_ge i xs.length with hlt | hge
  · obtain ⟨x, hx⟩ : ∃ x, xs[i]? = some x := ⟨_, List.getElem?_eq_getElem hlt⟩
    obtain ⟨z, hz2⟩ : ∃ x, ys[i]? = some x := ⟨_, List.getElem?_eq_getElem (by omega)⟩
    have ea := atPlace (m := .no) hx
    have eb := atPlace (m := .no) hz2
    have hek := encL_len (m := .no) (r := tPlace x)
    have hek2 := encL_len (m := .no) (r := tPlace z)
    rw [tPlace_len] at hek hek2
    have hc := fun K => c_eqPlace x z K
    have htk : (encL .no (tPlace x)).take 8 = encL .no (tPlace x) := List.take_of_length_le (by omega)
    have htk2 : (encL .no (tPlace z)).take 8 = encL .no (tPlace z) := List.take_of_length_le (by omega)
    simp -implicitDefEqProofs [hlt, ea, eb, hek, hek2, htk, htk2, encPlaceS_len]
    intro _
    refine wRun_draw true rfl (by decide +kernel) ?_
    simp -implicitDefEqProofs [hlt, ea, eb, hek, hek2, htk, htk2, encPlaceS_len]
    refine ⟨by omega, ?_⟩
    refine callK_of (hc _) ?_
    simp -implicitDefEqProofs
    refine ⟨fun h3 => eqB_ne fun e => (by rw [e, hz2] at hx; cases hx; rw [eqB_self] at h3; cases h3), fun h3 => ?_⟩
    rw [eqB_iff] at h3
    subst h3
    unfold maxLen at *
    simp (disch := omega) only [wrap64]
    refine ⟨xs.length - (i + 1), by omega, _, St.le_of (by simp) ?_ rfl (by simp [St.trunc]), i + 1, by omega, rfl, ?_, rfl⟩
    · simp [St.trunc, look, mapV, mapC]
    · rw [List.take_add_one, List.take_add_one, hz, hx, hz2]
  · have e : i = xs.length := by omega
    subst e
    simp -implicitDefEqProofs
    intro _
    refine (eqB_iff.2 ?_)
    rw [List.take_of_length_le (by omega), List.take_of_length_le (by omega)] at hz
    exact hz
end Go.Proofs.YthagllbnkbahnaaGreat.Abs
