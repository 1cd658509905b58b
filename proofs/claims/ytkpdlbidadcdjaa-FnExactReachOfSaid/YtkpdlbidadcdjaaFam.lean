/- PRINTED by fam.py: what the laws do with data. No condition. -/
import Derived.Test.YtkpdlbidadcdjaaFStr
set_option linter.unusedVariables false
set_option linter.unusedSimpArgs false
namespace Go.Proofs.Ytkpdlbidadcdjaa.Abs
open Go
set_option maxHeartbeats 2000000
set_option maxRecDepth 100000
theorem c_szValue_rec : ∀ N : Nat, (∀ (a : DValue) (l : Int) (K : List (List (List AC))) (h1 : 0 ≤ l) (h2 : l ≤ 1048576) (hN : SizeOf.sizeOf a < N), ∃ r, Ct Try.prog 71 [.agg (encL .no (tValue a)), .int .i64 l] K (.int .i64 r) K ∧ SZ l (szL (tValue a)) r) ∧ (∀ (xs : List DValue) (l : Int) (K : List (List (List AC))) (h1 : 0 ≤ l) (h2 : l ≤ 1048576) (hN : SizeOf.sizeOf xs < N), ∃ r, Ct Try.prog 82 [.sl .no xs.length (encR .no (tValueS xs)), .int .i64 l] K (.int .i64 r) K ∧ SZ l (xs.length + szR (tValueS xs)) r) := by
  intro N
  induction N with
  | zero => exact ⟨fun a => by intros; omega, fun xs => by intros; omega⟩
  | succ N ih =>
  refine ⟨?_, ?_⟩
  · intro a l K h1 h2 hN
    obtain ⟨x0, x1, x2, x3⟩ := a
    have es : szL (tValue ⟨x0, x1, x2, x3⟩) = x1.length + (x2.length + szR (tValueS x2)) + (x3.length + szR (tStrS x3)) := by simp [tValue, encL_app, encL, encT, szL, szT]; try omega
    refine ⟨_, ?_, subz_SZ _ _⟩
    rw [es]
    refine ct_fn { n0 := 5, ex := [], tk := [] } Try.func71 rfl (by kernel_rfl) (by kernel_rfl) rfl ?_
    simp -implicitDefEqProofs [Try.f71, tValue, encL_app, encL, encT, szL, szT]
    intro hn1
    unfold maxLen at hn1
    simp (disch := omega) only [wrap64]
    refine ⟨fun h => by unfold subz; rw [if_pos (by omega)], fun h1 => ?_⟩
    obtain ⟨r2, hc, hr2⟩ := ih.2 x2 (l - x1.length) _ (by omega) (by omega) (by simp at hN; omega)
    refine callK_of hc ?_
    simp -implicitDefEqProofs
    unfold SZ at hr2
    refine ⟨fun h => by unfold subz; rw [if_pos (by omega)], fun h2 => ?_⟩
    obtain ⟨r3, hc, hr3⟩ := c_szStringS x3 r2 _ (by omega) (by omega)
    refine callK_of hc ?_
    simp -implicitDefEqProofs
    unfold SZ at hr3
    refine ⟨fun h => by unfold subz; rw [if_pos (by omega)], fun h3 => ?_⟩
    unfold subz; rw [if_neg (by omega)]; try omega
  · intro xs l K h1 h2 hN
    refine ⟨_, ?_, subz_SZ _ _⟩
    refine ct_fn { n0 := 6, ex := [], tk := [] } Try.func82 rfl (by kernel_rfl) (by kernel_rfl) rfl ?_
    simp -implicitDefEqProofs [Try.f82]
    intro hn
    unfold maxLen at hn
    simp (disch := omega) only [wrap64]
    refine ⟨fun h => by unfold subz; rw [if_pos (by omega)], fun h => ?_⟩
    refine wC_loop (fun m s => ∃ i, i ≤ xs.length ∧ m = xs.length - i ∧ ((szR ((tValueS xs).take i) : Nat) : Int) ≤ l - xs.length ∧
      s = { env := [(0, .sl .no xs.length (encR .no (tValueS xs))), (1, .int .i64 (l - xs.length - szR ((tValueS xs).take i))), (4, .int .i64 0), (5, .int .i64 i)], loc := [], K := [] :: K }) xs.length _
      (St.le_of (by simp) (by simp [szR]) rfl rfl) ⟨0, by omega, rfl, by simp [szR]; omega, by simp [szR]⟩ ?_
    rintro m _ ⟨i, hi, rfl, hz, rfl⟩
    rcases Nat.lt_or_ge i xs.length with hlt | hge
    · obtain ⟨x, hx⟩ : ∃ x, xs[i]? = some x := ⟨_, List.getElem?_eq_getElem hlt⟩
      have ea := atValue (m := .no) hx
      have es := szR_get (tValueS_get hx)
      have el := szR_take_le (rs := tValueS xs) (i + 1)
      obtain ⟨r, hc, hr⟩ := ih.1 x (l - xs.length - szR ((tValueS xs).take i)) ([] :: K) (by omega) (by omega) (by have := List.sizeOf_lt_of_mem (List.mem_of_getElem? hx); omega)
      unfold SZ at hr
      have hek := encL_len (m := .no) (r := tValue x)
      rw [tValue_len] at hek
      have htk : (encL .no (tValue x)).take 4 = encL .no (tValue x) := List.take_of_length_le (by omega)
      simp -implicitDefEqProofs [hlt, ea, hek, htk, encValueS_len]
      intro _
      refine callK_of hc ?_
      simp -implicitDefEqProofs
      unfold maxLen at *
      refine ⟨fun h3 => by unfold subz; rw [if_pos (by omega)], fun h3 => ?_⟩
      simp (disch := omega) only [wrap64]
      refine ⟨xs.length - (i + 1), by omega, _, St.le_of (by simp) ?_ rfl (by simp [St.trunc]), i + 1, by omega, rfl, by omega, rfl⟩
      have e3 : r = l - xs.length - (szR ((tValueS xs).take (i + 1)) : Nat) := by omega
      simp [St.trunc, look, mapV, mapC, e3]
    · have e : i = xs.length := by omega
      subst e
      simp -implicitDefEqProofs
      intro _
      have et : (tValueS xs).take xs.length = tValueS xs := List.take_of_length_le (by simp)
      rw [et] at hz ⊢
      unfold subz; rw [if_neg (by omega)]; try omega
theorem c_szValue (a : DValue) (l : Int) (K) (h1 : 0 ≤ l) (h2 : l ≤ 1048576) : ∃ r, Ct Try.prog 71 [.agg (encL .no (tValue a)), .int .i64 l] K (.int .i64 r) K ∧ SZ l (szL (tValue a)) r := (c_szValue_rec _).1 a l K h1 h2 (Nat.lt_succ_self _)
theorem c_szValueS (xs : List DValue) (l : Int) (K) (h1 : 0 ≤ l) (h2 : l ≤ 1048576) : ∃ r, Ct Try.prog 82 [.sl .no xs.length (encR .no (tValueS xs)), .int .i64 l] K (.int .i64 r) K ∧ SZ l (xs.length + szR (tValueS xs)) r := (c_szValue_rec _).2 xs l K h1 h2 (Nat.lt_succ_self _)
theorem c_toValue_rec : ∀ N : Nat, (∀ (a : DValue) (K : List (List (List AC))) (hs : szL (tValue a) ≤ 1048576) (hN : SizeOf.sizeOf a < N), Ct Try.prog 72 [.agg (encL .no (tValue a))] K (.agg (encL .ex (tValue a))) K) ∧ (∀ (xs : List DValue) (K : List (List (List AC))) (hs : xs.length + szR (tValueS xs) ≤ 1048576) (hN : SizeOf.sizeOf xs < N), Ct Try.prog 84 [.sl .no xs.length (encR .no (tValueS xs))] K (.sl (.ex 85) xs.length (encR .ex (tValueS xs))) K) := by
  intro N
  induction N with
  | zero => exact ⟨fun a => by intros; omega, fun xs => by intros; omega⟩
  | succ N ih =>
  refine ⟨?_, ?_⟩
  · intro a K hs hN
    obtain ⟨x0, x1, x2, x3⟩ := a
    have es : szL (tValue ⟨x0, x1, x2, x3⟩) = x1.length + (x2.length + szR (tValueS x2)) + (x3.length + szR (tStrS x3)) := by simp [tValue, encL_app, encL, encT, szL, szT]; try omega
    rw [es] at hs
    refine ct_fn { n0 := 4, ex := [], tk := [12, 16, 18] } Try.func72 rfl (by kernel_rfl) (by kernel_rfl) rfl ?_
    simp -implicitDefEqProofs [Try.f72, tValue, encL_app, encL, encT, szL, szT]
    refine callK_of (ih.2 x2 _ (by omega) (by simp at hN; omega)) ?_
    simp -implicitDefEqProofs
    refine callK_of (c_toStringS x3 _ (by omega)) ?_
    simp -implicitDefEqProofs
  · intro xs K hs hN
    refine ct_fn { n0 := 5, ex := [], tk := [7, 20, 22], kp := [7], es := true } Try.func84 rfl (by kernel_rfl) (by kernel_rfl) rfl ?_
    simp -implicitDefEqProofs [Try.f84]
    intro h1
    unfold maxLen at h1
    refine ⟨by unfold maxLen; omega, fun y => ?_⟩
    have e0 : (List.replicate xs.length ([.int .i64 0, .str [], .sl .nil 0 [], .sl .nil 0 []] : List AC)).flatten = filled .ex [.int .i64 0, .str [], .sl .nil 0 [], .sl .nil 0 []] (tValueS xs) 0 := by rw [filled_zero]; simp
    rw [e0]
    refine wC_for (fun i => { env := [(0, .sl .no xs.length (encR .no (tValueS xs))), (2, .sl .nil 0 []), (3, .nam y (.sl (.ex 85) xs.length (filled .ex [.int .i64 0, .str [], .sl .nil 0 [], .sl .nil 0 []] (tValueS xs) i))), (4, .int .i64 i)], loc := [], K := [] :: K }) xs.length (St.le_of (by simp) (by simp) rfl rfl) ?_
    intro i hi
    have efl := filled_len (m := .ex) (z := [.int .i64 0, .str [], .sl .nil 0 [], .sl .nil 0 []]) (i := i) (tValueS_rows (xs := xs)) rfl (by simpa using hi)
    rcases Nat.lt_or_ge i xs.length with hlt | hge
    · obtain ⟨x, hx⟩ : ∃ x, xs[i]? = some x := ⟨_, List.getElem?_eq_getElem hlt⟩
      have ea := atValue (m := .no) hx
      have ef := filled_next (m := .ex) (z := [.int .i64 0, .str [], .sl .nil 0 [], .sl .nil 0 []]) tValueS_rows rfl (tValueS_get hx)
      have es := szR_get (tValueS_get hx)
      have el := szR_take_le (rs := tValueS xs) (i + 1)
      have hc := fun K => ih.1 x K (by omega) (by have := List.sizeOf_lt_of_mem (List.mem_of_getElem? hx); omega)
      have hek := encL_len (m := .no) (r := tValue x)
      have hek2 := encL_len (m := .ex) (r := tValue x)
      have hfl := flat_enc (m := .ex) (r := tValue x)
      rw [tValue_len] at hek hek2
      unfold putCells at ef
      rw [hek2] at ef
      have htk : (encL .no (tValue x)).take 4 = encL .no (tValue x) := List.take_of_length_le (by omega)
      simp -implicitDefEqProofs [hlt, ea, hek, htk, encValueS_len]
      intro _
      refine callK_of (hc _) ?_
      have hfl2 : (encL .ex (tValue x)).all flat = true := List.all_eq_true.2 hfl
      rw [tValueS_len] at efl
      simp -implicitDefEqProofs [hek2, efl, ef, hfl2, hlt]
      refine ⟨by omega, ?_⟩
      unfold maxLen at *
      simp (disch := omega) only [wrap64]
      exact for_next hlt (St.le_of (by simp) (by simp [St.trunc, look, mapV, mapC]) rfl (by simp [St.trunc]))
    · have e : i = xs.length := by omega
      subst e
      have eq : filled .ex [.int .i64 0, .str [], .sl .nil 0 [], .sl .nil 0 []] (tValueS xs) xs.length = encR .ex (tValueS xs) := by rw [← filled_all (z := ([.int .i64 0, .str [], .sl .nil 0 [], .sl .nil 0 []] : List AC))]; simp
      simp -implicitDefEqProofs [eq]
theorem c_toValue (a : DValue) (K) (hs : szL (tValue a) ≤ 1048576) : Ct Try.prog 72 [.agg (encL .no (tValue a))] K (.agg (encL .ex (tValue a))) K := (c_toValue_rec _).1 a K hs (Nat.lt_succ_self _)
theorem c_toValueS (xs : List DValue) (K) (hs : xs.length + szR (tValueS xs) ≤ 1048576) : Ct Try.prog 84 [.sl .no xs.length (encR .no (tValueS xs))] K (.sl (.ex 85) xs.length (encR .ex (tValueS xs))) K := (c_toValue_rec _).2 xs K hs (Nat.lt_succ_self _)
theorem c_eqValue_rec : ∀ N : Nat, (∀ (a b : DValue) (K : List (List (List AC))) (hN : SizeOf.sizeOf a < N), Ct Try.prog 81 [.agg (encL .no (tValue a)), .agg (encL .no (tValue b))] K (.bool (eqB a b)) K) ∧ (∀ (xs ys : List DValue) (K : List (List (List AC))) (hN : SizeOf.sizeOf xs < N), Ct Try.prog 88 [.sl .no xs.length (encR .no (tValueS xs)), .sl .no ys.length (encR .no (tValueS ys))] K (.bool (eqB xs ys)) K) := by
  intro N
  induction N with
  | zero => exact ⟨fun a => by intros; omega, fun xs => by intros; omega⟩
  | succ N ih =>
  refine ⟨?_, ?_⟩
  · intro a b K hN
    obtain ⟨x0, x1, x2, x3⟩ := a
    obtain ⟨y0, y1, y2, y3⟩ := b
    refine ct_fn { n0 := 5, ex := [], tk := [] } Try.func81 rfl (by kernel_rfl) (by kernel_rfl) rfl ?_
    simp -implicitDefEqProofs [Try.f81, tValue, encL_app, encL, encT, szL, szT]
    refine ⟨fun h => eqB_ne fun e => h (by cases e; rfl), fun h0 => ?_⟩
    refine ⟨fun h => eqB_ne fun e => h (by cases e; rfl), fun h1 => ?_⟩
    refine callK_of (ih.2 x2 y2 _ (by simp at hN; omega)) ?_
    simp -implicitDefEqProofs
    refine ⟨fun h => eqB_ne fun e => (by cases e; rw [eqB_self] at h; cases h), fun h2 => ?_⟩
    rw [eqB_iff] at h2
    refine callK_of (c_eqStringS x3 y3 _) ?_
    simp -implicitDefEqProofs
    refine ⟨fun h => eqB_ne fun e => (by cases e; rw [eqB_self] at h; cases h), fun h3 => ?_⟩
    rw [eqB_iff] at h3
    rw [eqB_iff]
    try cases h0
    try cases h1
    try cases h2
    try cases h3
    rfl
  · intro xs ys K hN
    refine ct_fn { n0 := 6, ex := [], tk := [] } Try.func88 rfl (by kernel_rfl) (by kernel_rfl) rfl ?_
    simp -implicitDefEqProofs [Try.f88]
    intro h1 h2
    refine ⟨fun h => eqB_ne fun e => h (by rw [e]), fun hlen => ?_⟩
    refine wC_loop (fun m s => ∃ i, i ≤ xs.length ∧ m = xs.length - i ∧ xs.take i = ys.take i ∧
      s = { env := [(0, .sl .no xs.length (encR .no (tValueS xs))), (1, .sl .no ys.length (encR .no (tValueS ys))), (4, .bool false), (5, .int .i64 i)], loc := [], K := [] :: K }) xs.length _
      (St.le_of (by simp) (by simp) rfl rfl) ⟨0, by omega, rfl, by simp, rfl⟩ ?_
    rintro m _ ⟨i, hi, rfl, hz, rfl⟩
    rcases Nat.lt_or_ge i xs.length with hlt | hge
    · obtain ⟨x, hx⟩ : ∃ x, xs[i]? = some x := ⟨_, List.getElem?_eq_getElem hlt⟩
      obtain ⟨z, hz2⟩ : ∃ x, ys[i]? = some x := ⟨_, List.getElem?_eq_getElem (by omega)⟩
      have ea := atValue (m := .no) hx
      have eb := atValue (m := .no) hz2
      have hek := encL_len (m := .no) (r := tValue x)
      have hek2 := encL_len (m := .no) (r := tValue z)
      rw [tValue_len] at hek hek2
      have hc := fun K => ih.1 x z K (by have := List.sizeOf_lt_of_mem (List.mem_of_getElem? hx); omega)
      have htk : (encL .no (tValue x)).take 4 = encL .no (tValue x) := List.take_of_length_le (by omega)
      have htk2 : (encL .no (tValue z)).take 4 = encL .no (tValue z) := List.take_of_length_le (by omega)
      simp -implicitDefEqProofs [hlt, ea, eb, hek, hek2, htk, htk2, encValueS_len]
      intro _
      refine wRun_draw true rfl (by decide +kernel) ?_
      simp -implicitDefEqProofs [hlt, ea, eb, hek, hek2, htk, htk2, encValueS_len]
      refine ⟨by omega, ?_⟩
      refine callK_of (hc _) ?_
      simp -implicitDefEqProofs
      refine ⟨fun h3 => eqB_ne fun e => (by rw [e, hz2] at hx; cases hx; rw [eqB_self] at h3; cases h3), fun h3 => ?_⟩
      rw [eqB_iff] at h3
      subst h3
      unfold maxLen at *
      simp (disch := omega) only [wrap64]
      refine ⟨xs.length - (i + 1), by omega, _, St.le_of (by simp) ?_ rfl (by simp [St.trunc]), i + 1, by omega, rfl, ?_, rfl⟩
      · simp [St.trunc, look, mapV, mapC]
      · rw [List.take_add_one, List.take_add_one, hz, hx, hz2]
    · have e : i = xs.length := by omega
      subst e
      simp -implicitDefEqProofs
      intro _
      refine (eqB_iff.2 ?_)
      rw [List.take_of_length_le (by omega), List.take_of_length_le (by omega)] at hz
      exact hz
theorem c_eqValue (a b : DValue) (K) : Ct Try.prog 81 [.agg (encL .no (tValue a)), .agg (encL .no (tValue b))] K (.bool (eqB a b)) K := (c_eqValue_rec _).1 a b K (Nat.lt_succ_self _)
theorem c_eqValueS (xs ys : List DValue) (K) : Ct Try.prog 88 [.sl .no xs.length (encR .no (tValueS xs)), .sl .no ys.length (encR .no (tValueS ys))] K (.bool (eqB xs ys)) K := (c_eqValue_rec _).2 xs ys K (Nat.lt_succ_self _)
theorem c_szArg (a : DArg) (l : Int) (K) (h1 : 0 ≤ l) (h2 : l ≤ 1048576) : ∃ r, Ct Try.prog 52 [.agg (encL .no (tArg a)), .int .i64 l] K (.int .i64 r) K ∧ SZ l (szL (tArg a)) r := by
  obtain ⟨x0, ⟨x1_0, x1_1, x1_2, x1_3⟩⟩ := a
  have es : szL (tArg ⟨x0, ⟨x1_0, x1_1, x1_2, x1_3⟩⟩) = x0.length + x1_1.length + (x1_2.length + szR (tValueS x1_2)) + (x1_3.length + szR (tStrS x1_3)) := by simp [tArg, tValue, encL_app, encL, encT, szL, szT]; try omega
  refine ⟨_, ?_, subz_SZ _ _⟩
  rw [es]
  refine ct_fn { n0 := 5, ex := [], tk := [] } Try.func52 rfl (by kernel_rfl) (by kernel_rfl) rfl ?_
  simp -implicitDefEqProofs [Try.f52, tArg, tValue, encL_app, encL, encT, szL, szT]
  intro hn0
  unfold maxLen at hn0
  simp (disch := omega) only [wrap64]
  refine ⟨fun h => by unfold subz; rw [if_pos (by omega)], fun h0 => ?_⟩
  have es1 : szL (tValue ⟨x1_0, x1_1, x1_2, x1_3⟩) = x1_1.length + (x1_2.length + szR (tValueS x1_2)) + (x1_3.length + szR (tStrS x1_3)) := by simp [tValue, encL_app, encL, encT, szL, szT]; try omega
  obtain ⟨r1, hc, hr1⟩ := c_szValue ⟨x1_0, x1_1, x1_2, x1_3⟩ (l - x0.length) _ (by omega) (by omega)
  simp only [tValue, encL_app, encL, encT, List.cons_append, List.nil_append, Md.ow_no, tStrS_len, tIntS_len, tValueS_len] at hc
  refine callK_of hc ?_
  simp -implicitDefEqProofs
  unfold SZ at hr1
  refine ⟨fun h => by unfold subz; rw [if_pos (by omega)], fun h1 => ?_⟩
  unfold subz; rw [if_neg (by omega)]; try omega
theorem c_szArgS (xs : List DArg) (l : Int) (K) (h1 : 0 ≤ l) (h2 : l ≤ 1048576) : ∃ r, Ct Try.prog 36 [.sl .no xs.length (encR .no (tArgS xs)), .int .i64 l] K (.int .i64 r) K ∧ SZ l (xs.length + szR (tArgS xs)) r := by
  refine ⟨_, ?_, subz_SZ _ _⟩
  refine ct_fn { n0 := 6, ex := [], tk := [] } Try.func36 rfl (by kernel_rfl) (by kernel_rfl) rfl ?_
  simp -implicitDefEqProofs [Try.f36]
  intro hn
  unfold maxLen at hn
  simp (disch := omega) only [wrap64]
  refine ⟨fun h => by unfold subz; rw [if_pos (by omega)], fun h => ?_⟩
  refine wC_loop (fun m s => ∃ i, i ≤ xs.length ∧ m = xs.length - i ∧ ((szR ((tArgS xs).take i) : Nat) : Int) ≤ l - xs.length ∧
    s = { env := [(0, .sl .no xs.length (encR .no (tArgS xs))), (1, .int .i64 (l - xs.length - szR ((tArgS xs).take i))), (4, .int .i64 0), (5, .int .i64 i)], loc := [], K := [] :: K }) xs.length _
    (St.le_of (by simp) (by simp [szR]) rfl rfl) ⟨0, by omega, rfl, by simp [szR]; omega, by simp [szR]⟩ ?_
  rintro m _ ⟨i, hi, rfl, hz, rfl⟩
  rcases Nat.lt_or_ge i xs.length with hlt | hge
  · obtain ⟨x, hx⟩ : ∃ x, xs[i]? = some x := ⟨_, List.getElem?_eq_getElem hlt⟩
    have ea := atArg (m := .no) hx
    have es := szR_get (tArgS_get hx)
    have el := szR_take_le (rs := tArgS xs) (i + 1)
    obtain ⟨r, hc, hr⟩ := c_szArg x (l - xs.length - szR ((tArgS xs).take i)) ([] :: K) (by omega) (by omega)
    unfold SZ at hr
    have hek := encL_len (m := .no) (r := tArg x)
    rw [tArg_len] at hek
    have htk : (encL .no (tArg x)).take 5 = encL .no (tArg x) := List.take_of_length_le (by omega)
    simp -implicitDefEqProofs [hlt, ea, hek, htk, encArgS_len]
    intro _
    refine callK_of hc ?_
    simp -implicitDefEqProofs
    unfold maxLen at *
    refine ⟨fun h3 => by unfold subz; rw [if_pos (by omega)], fun h3 => ?_⟩
    simp (disch := omega) only [wrap64]
    refine ⟨xs.length - (i + 1), by omega, _, St.le_of (by simp) ?_ rfl (by simp [St.trunc]), i + 1, by omega, rfl, by omega, rfl⟩
    have e3 : r = l - xs.length - (szR ((tArgS xs).take (i + 1)) : Nat) := by omega
    simp [St.trunc, look, mapV, mapC, e3]
  · have e : i = xs.length := by omega
    subst e
    simp -implicitDefEqProofs
    intro _
    have et : (tArgS xs).take xs.length = tArgS xs := List.take_of_length_le (by simp)
    rw [et] at hz ⊢
    unfold subz; rw [if_neg (by omega)]; try omega
theorem c_toArg (a : DArg) (K) (hs : szL (tArg a) ≤ 1048576) : Ct Try.prog 55 [.agg (encL .no (tArg a))] K (.agg (encL .ex (tArg a))) K := by
  obtain ⟨x0, ⟨x1_0, x1_1, x1_2, x1_3⟩⟩ := a
  have es : szL (tArg ⟨x0, ⟨x1_0, x1_1, x1_2, x1_3⟩⟩) = x0.length + x1_1.length + (x1_2.length + szR (tValueS x1_2)) + (x1_3.length + szR (tStrS x1_3)) := by simp [tArg, tValue, encL_app, encL, encT, szL, szT]; try omega
  rw [es] at hs
  refine ct_fn { n0 := 4, ex := [], tk := [9, 11] } Try.func55 rfl (by kernel_rfl) (by kernel_rfl) rfl ?_
  simp -implicitDefEqProofs [Try.f55, tArg, tValue, encL_app, encL, encT, szL, szT]
  have es1 : szL (tValue ⟨x1_0, x1_1, x1_2, x1_3⟩) = x1_1.length + (x1_2.length + szR (tValueS x1_2)) + (x1_3.length + szR (tStrS x1_3)) := by simp [tValue, encL_app, encL, encT, szL, szT]; try omega
  have hc := fun K => c_toValue ⟨x1_0, x1_1, x1_2, x1_3⟩ K (by omega)
  simp only [tValue, encL_app, encL, encT, List.cons_append, List.nil_append, Md.ow_no, Md.ow_ex, tStrS_len, tIntS_len, tValueS_len] at hc
  refine callK_of (hc _) ?_
  simp -implicitDefEqProofs
theorem c_toArgS (xs : List DArg) (K) (hs : xs.length + szR (tArgS xs) ≤ 1048576) : Ct Try.prog 40 [.sl .no xs.length (encR .no (tArgS xs))] K (.sl (.ex 87) xs.length (encR .ex (tArgS xs))) K := by
  refine ct_fn { n0 := 5, ex := [], tk := [7, 20, 22], kp := [7], es := true } Try.func40 rfl (by kernel_rfl) (by kernel_rfl) rfl ?_
  simp -implicitDefEqProofs [Try.f40]
  intro h1
  unfold maxLen at h1
  refine ⟨by unfold maxLen; omega, fun y => ?_⟩
  have e0 : (List.replicate xs.length ([.str [], .int .i64 0, .str [], .sl .nil 0 [], .sl .nil 0 []] : List AC)).flatten = filled .ex [.str [], .int .i64 0, .str [], .sl .nil 0 [], .sl .nil 0 []] (tArgS xs) 0 := by rw [filled_zero]; simp
  rw [e0]
  refine wC_for (fun i => { env := [(0, .sl .no xs.length (encR .no (tArgS xs))), (2, .sl .nil 0 []), (3, .nam y (.sl (.ex 87) xs.length (filled .ex [.str [], .int .i64 0, .str [], .sl .nil 0 [], .sl .nil 0 []] (tArgS xs) i))), (4, .int .i64 i)], loc := [], K := [] :: K }) xs.length (St.le_of (by simp) (by simp) rfl rfl) ?_
  intro i hi
  have efl := filled_len (m := .ex) (z := [.str [], .int .i64 0, .str [], .sl .nil 0 [], .sl .nil 0 []]) (i := i) (tArgS_rows (xs := xs)) rfl (by simpa using hi)
  rcases Nat.lt_or_ge i xs.length with hlt | hge
  · obtain ⟨x, hx⟩ : ∃ x, xs[i]? = some x := ⟨_, List.getElem?_eq_getElem hlt⟩
    have ea := atArg (m := .no) hx
    have ef := filled_next (m := .ex) (z := [.str [], .int .i64 0, .str [], .sl .nil 0 [], .sl .nil 0 []]) tArgS_rows rfl (tArgS_get hx)
    have es := szR_get (tArgS_get hx)
    have el := szR_take_le (rs := tArgS xs) (i + 1)
    have hc := fun K => c_toArg x K (by omega)
    have hek := encL_len (m := .no) (r := tArg x)
    have hek2 := encL_len (m := .ex) (r := tArg x)
    have hfl := flat_enc (m := .ex) (r := tArg x)
    rw [tArg_len] at hek hek2
    unfold putCells at ef
    rw [hek2] at ef
    have htk : (encL .no (tArg x)).take 5 = encL .no (tArg x) := List.take_of_length_le (by omega)
    simp -implicitDefEqProofs [hlt, ea, hek, htk, encArgS_len]
    intro _
    refine callK_of (hc _) ?_
    have hfl2 : (encL .ex (tArg x)).all flat = true := List.all_eq_true.2 hfl
    rw [tArgS_len] at efl
    simp -implicitDefEqProofs [hek2, efl, ef, hfl2, hlt]
    refine ⟨by omega, ?_⟩
    unfold maxLen at *
    simp (disch := omega) only [wrap64]
    exact for_next hlt (St.le_of (by simp) (by simp [St.trunc, look, mapV, mapC]) rfl (by simp [St.trunc]))
  · have e : i = xs.length := by omega
    subst e
    have eq : filled .ex [.str [], .int .i64 0, .str [], .sl .nil 0 [], .sl .nil 0 []] (tArgS xs) xs.length = encR .ex (tArgS xs) := by rw [← filled_all (z := ([.str [], .int .i64 0, .str [], .sl .nil 0 [], .sl .nil 0 []] : List AC))]; simp
    simp -implicitDefEqProofs [eq]
theorem c_eqArg (a b : DArg) (K) : Ct Try.prog 70 [.agg (encL .no (tArg a)), .agg (encL .no (tArg b))] K (.bool (eqB a b)) K := by
  obtain ⟨x0, ⟨x1_0, x1_1, x1_2, x1_3⟩⟩ := a
  obtain ⟨y0, ⟨y1_0, y1_1, y1_2, y1_3⟩⟩ := b
  refine ct_fn { n0 := 5, ex := [], tk := [] } Try.func70 rfl (by kernel_rfl) (by kernel_rfl) rfl ?_
  simp -implicitDefEqProofs [Try.f70, tArg, tValue, encL_app, encL, encT, szL, szT]
  refine ⟨fun h => eqB_ne fun e => h (by cases e; rfl), fun h0 => ?_⟩
  have hc := fun K => c_eqValue ⟨x1_0, x1_1, x1_2, x1_3⟩ ⟨y1_0, y1_1, y1_2, y1_3⟩ K
  simp only [tValue, encL_app, encL, encT, List.cons_append, List.nil_append, Md.ow_no, tStrS_len, tIntS_len, tValueS_len] at hc
  refine callK_of (hc _) ?_
  simp -implicitDefEqProofs
  refine ⟨fun h => eqB_ne fun e => (by cases e; rw [eqB_self] at h; cases h), fun h1 => ?_⟩
  rw [eqB_iff] at h1
  rw [eqB_iff]
  try cases h0
  try cases h1
  rfl
theorem c_eqArgS (xs ys : List DArg) (K) : Ct Try.prog 49 [.sl .no xs.length (encR .no (tArgS xs)), .sl .no ys.length (encR .no (tArgS ys))] K (.bool (eqB xs ys)) K := by
  refine ct_fn { n0 := 6, ex := [], tk := [] } Try.func49 rfl (by kernel_rfl) (by kernel_rfl) rfl ?_
  simp -implicitDefEqProofs [Try.f49]
  intro h1 h2
  refine ⟨fun h => eqB_ne fun e => h (by rw [e]), fun hlen => ?_⟩
  refine wC_loop (fun m s => ∃ i, i ≤ xs.length ∧ m = xs.length - i ∧ xs.take i = ys.take i ∧
    s = { env := [(0, .sl .no xs.length (encR .no (tArgS xs))), (1, .sl .no ys.length (encR .no (tArgS ys))), (4, .bool false), (5, .int .i64 i)], loc := [], K := [] :: K }) xs.length _
    (St.le_of (by simp) (by simp) rfl rfl) ⟨0, by omega, rfl, by simp, rfl⟩ ?_
  rintro m _ ⟨i, hi, rfl, hz, rfl⟩
  rcases Nat.lt_or_ge i xs.length with hlt | hge
  · obtain ⟨x, hx⟩ : ∃ x, xs[i]? = some x := ⟨_, List.getElem?_eq_getElem hlt⟩
    obtain ⟨z, hz2⟩ : ∃ x, ys[i]? = some x := ⟨_, List.getElem?_eq_getElem (by omega)⟩
    have ea := atArg (m := .no) hx
    have eb := atArg (m := .no) hz2
    have hek := encL_len (m := .no) (r := tArg x)
    have hek2 := encL_len (m := .no) (r := tArg z)
    rw [tArg_len] at hek hek2
    have hc := fun K => c_eqArg x z K
    have htk : (encL .no (tArg x)).take 5 = encL .no (tArg x) := List.take_of_length_le (by omega)
    have htk2 : (encL .no (tArg z)).take 5 = encL .no (tArg z) := List.take_of_length_le (by omega)
    simp -implicitDefEqProofs [hlt, ea, eb, hek, hek2, htk, htk2, encArgS_len]
    intro _
    refine wRun_draw true rfl (by decide +kernel) ?_
    simp -implicitDefEqProofs [hlt, ea, eb, hek, hek2, htk, htk2, encArgS_len]
    refine ⟨by omega, ?_⟩
    refine callK_of (hc _) ?_
    simp -implicitDefEqProofs
    refine ⟨fun h3 => eqB_ne fun e => (by rw [e, hz2] at hx; cases hx; rw [eqB_self] at h3; cases h3), fun h3 => ?_⟩
    rw [eqB_iff] at h3
    subst h3
    unfold maxLen at *
    simp (disch := omega) only [wrap64]
    refine ⟨xs.length - (i + 1), by omega, _, St.le_of (by simp) ?_ rfl (by simp [St.trunc]), i + 1, by omega, rfl, ?_, rfl⟩
    · simp [St.trunc, look, mapV, mapC]
    · rw [List.take_add_one, List.take_add_one, hz, hx, hz2]
  · have e : i = xs.length := by omega
    subst e
    simp -implicitDefEqProofs
    intro _
    refine (eqB_iff.2 ?_)
    rw [List.take_of_length_le (by omega), List.take_of_length_le (by omega)] at hz
    exact hz
theorem c_szDir (a : DDir) (l : Int) (K) (h1 : 0 ≤ l) (h2 : l ≤ 1048576) : ∃ r, Ct Try.prog 51 [.agg (encL .no (tDir a)), .int .i64 l] K (.int .i64 r) K ∧ SZ l (szL (tDir a)) r := by
  obtain ⟨x0, x1⟩ := a
  have es : szL (tDir ⟨x0, x1⟩) = x0.length + (x1.length + szR (tArgS x1)) := by simp [tDir, encL_app, encL, encT, szL, szT]; try omega
  refine ⟨_, ?_, subz_SZ _ _⟩
  rw [es]
  refine ct_fn { n0 := 5, ex := [], tk := [] } Try.func51 rfl (by kernel_rfl) (by kernel_rfl) rfl ?_
  simp -implicitDefEqProofs [Try.f51, tDir, encL_app, encL, encT, szL, szT]
  intro hn0
  unfold maxLen at hn0
  simp (disch := omega) only [wrap64]
  refine ⟨fun h => by unfold subz; rw [if_pos (by omega)], fun h0 => ?_⟩
  obtain ⟨r1, hc, hr1⟩ := c_szArgS x1 (l - x0.length) _ (by omega) (by omega)
  refine callK_of hc ?_
  simp -implicitDefEqProofs
  unfold SZ at hr1
  refine ⟨fun h => by unfold subz; rw [if_pos (by omega)], fun h1 => ?_⟩
  unfold subz; rw [if_neg (by omega)]; try omega
theorem c_szDirS (xs : List DDir) (l : Int) (K) (h1 : 0 ≤ l) (h2 : l ≤ 1048576) : ∃ r, Ct Try.prog 35 [.sl .no xs.length (encR .no (tDirS xs)), .int .i64 l] K (.int .i64 r) K ∧ SZ l (xs.length + szR (tDirS xs)) r := by
  refine ⟨_, ?_, subz_SZ _ _⟩
  refine ct_fn { n0 := 6, ex := [], tk := [] } Try.func35 rfl (by kernel_rfl) (by kernel_rfl) rfl ?_
  simp -implicitDefEqProofs [Try.f35]
  intro hn
  unfold maxLen at hn
  simp (disch := omega) only [wrap64]
  refine ⟨fun h => by unfold subz; rw [if_pos (by omega)], fun h => ?_⟩
  refine wC_loop (fun m s => ∃ i, i ≤ xs.length ∧ m = xs.length - i ∧ ((szR ((tDirS xs).take i) : Nat) : Int) ≤ l - xs.length ∧
    s = { env := [(0, .sl .no xs.length (encR .no (tDirS xs))), (1, .int .i64 (l - xs.length - szR ((tDirS xs).take i))), (4, .int .i64 0), (5, .int .i64 i)], loc := [], K := [] :: K }) xs.length _
    (St.le_of (by simp) (by simp [szR]) rfl rfl) ⟨0, by omega, rfl, by simp [szR]; omega, by simp [szR]⟩ ?_
  rintro m _ ⟨i, hi, rfl, hz, rfl⟩
  rcases Nat.lt_or_ge i xs.length with hlt | hge
  · obtain ⟨x, hx⟩ : ∃ x, xs[i]? = some x := ⟨_, List.getElem?_eq_getElem hlt⟩
    have ea := atDir (m := .no) hx
    have es := szR_get (tDirS_get hx)
    have el := szR_take_le (rs := tDirS xs) (i + 1)
    obtain ⟨r, hc, hr⟩ := c_szDir x (l - xs.length - szR ((tDirS xs).take i)) ([] :: K) (by omega) (by omega)
    unfold SZ at hr
    have hek := encL_len (m := .no) (r := tDir x)
    rw [tDir_len] at hek
    have htk : (encL .no (tDir x)).take 2 = encL .no (tDir x) := List.take_of_length_le (by omega)
    simp -implicitDefEqProofs [hlt, ea, hek, htk, encDirS_len]
    intro _
    refine callK_of hc ?_
    simp -implicitDefEqProofs
    unfold maxLen at *
    refine ⟨fun h3 => by unfold subz; rw [if_pos (by omega)], fun h3 => ?_⟩
    simp (disch := omega) only [wrap64]
    refine ⟨xs.length - (i + 1), by omega, _, St.le_of (by simp) ?_ rfl (by simp [St.trunc]), i + 1, by omega, rfl, by omega, rfl⟩
    have e3 : r = l - xs.length - (szR ((tDirS xs).take (i + 1)) : Nat) := by omega
    simp [St.trunc, look, mapV, mapC, e3]
  · have e : i = xs.length := by omega
    subst e
    simp -implicitDefEqProofs
    intro _
    have et : (tDirS xs).take xs.length = tDirS xs := List.take_of_length_le (by simp)
    rw [et] at hz ⊢
    unfold subz; rw [if_neg (by omega)]; try omega
theorem c_toDir (a : DDir) (K) (hs : szL (tDir a) ≤ 1048576) : Ct Try.prog 54 [.agg (encL .no (tDir a))] K (.agg (encL .ex (tDir a))) K := by
  obtain ⟨x0, x1⟩ := a
  have es : szL (tDir ⟨x0, x1⟩) = x0.length + (x1.length + szR (tArgS x1)) := by simp [tDir, encL_app, encL, encT, szL, szT]; try omega
  rw [es] at hs
  refine ct_fn { n0 := 4, ex := [], tk := [9, 11] } Try.func54 rfl (by kernel_rfl) (by kernel_rfl) rfl ?_
  simp -implicitDefEqProofs [Try.f54, tDir, encL_app, encL, encT, szL, szT]
  refine callK_of (c_toArgS x1 _ (by omega)) ?_
  simp -implicitDefEqProofs
theorem c_toDirS (xs : List DDir) (K) (hs : xs.length + szR (tDirS xs) ≤ 1048576) : Ct Try.prog 39 [.sl .no xs.length (encR .no (tDirS xs))] K (.sl (.ex 82) xs.length (encR .ex (tDirS xs))) K := by
  refine ct_fn { n0 := 5, ex := [], tk := [7, 20, 22], kp := [7], es := true } Try.func39 rfl (by kernel_rfl) (by kernel_rfl) rfl ?_
  simp -implicitDefEqProofs [Try.f39]
  intro h1
  unfold maxLen at h1
  refine ⟨by unfold maxLen; omega, fun y => ?_⟩
  have e0 : (List.replicate xs.length ([.str [], .sl .nil 0 []] : List AC)).flatten = filled .ex [.str [], .sl .nil 0 []] (tDirS xs) 0 := by rw [filled_zero]; simp
  rw [e0]
  refine wC_for (fun i => { env := [(0, .sl .no xs.length (encR .no (tDirS xs))), (2, .sl .nil 0 []), (3, .nam y (.sl (.ex 82) xs.length (filled .ex [.str [], .sl .nil 0 []] (tDirS xs) i))), (4, .int .i64 i)], loc := [], K := [] :: K }) xs.length (St.le_of (by simp) (by simp) rfl rfl) ?_
  intro i hi
  have efl := filled_len (m := .ex) (z := [.str [], .sl .nil 0 []]) (i := i) (tDirS_rows (xs := xs)) rfl (by simpa using hi)
  rcases Nat.lt_or_ge i xs.length with hlt | hge
  · obtain ⟨x, hx⟩ : ∃ x, xs[i]? = some x := ⟨_, List.getElem?_eq_getElem hlt⟩
    have ea := atDir (m := .no) hx
    have ef := filled_next (m := .ex) (z := [.str [], .sl .nil 0 []]) tDirS_rows rfl (tDirS_get hx)
    have es := szR_get (tDirS_get hx)
    have el := szR_take_le (rs := tDirS xs) (i + 1)
    have hc := fun K => c_toDir x K (by omega)
    have hek := encL_len (m := .no) (r := tDir x)
    have hek2 := encL_len (m := .ex) (r := tDir x)
    have hfl := flat_enc (m := .ex) (r := tDir x)
    rw [tDir_len] at hek hek2
    unfold putCells at ef
    rw [hek2] at ef
    have htk : (encL .no (tDir x)).take 2 = encL .no (tDir x) := List.take_of_length_le (by omega)
    simp -implicitDefEqProofs [hlt, ea, hek, htk, encDirS_len]
    intro _
    refine callK_of (hc _) ?_
    have hfl2 : (encL .ex (tDir x)).all flat = true := List.all_eq_true.2 hfl
    rw [tDirS_len] at efl
    simp -implicitDefEqProofs [hek2, efl, ef, hfl2, hlt]
    refine ⟨by omega, ?_⟩
    unfold maxLen at *
    simp (disch := omega) only [wrap64]
    exact for_next hlt (St.le_of (by simp) (by simp [St.trunc, look, mapV, mapC]) rfl (by simp [St.trunc]))
  · have e : i = xs.length := by omega
    subst e
    have eq : filled .ex [.str [], .sl .nil 0 []] (tDirS xs) xs.length = encR .ex (tDirS xs) := by rw [← filled_all (z := ([.str [], .sl .nil 0 []] : List AC))]; simp
    simp -implicitDefEqProofs [eq]
theorem c_eqDir (a b : DDir) (K) : Ct Try.prog 69 [.agg (encL .no (tDir a)), .agg (encL .no (tDir b))] K (.bool (eqB a b)) K := by
  obtain ⟨x0, x1⟩ := a
  obtain ⟨y0, y1⟩ := b
  refine ct_fn { n0 := 5, ex := [], tk := [] } Try.func69 rfl (by kernel_rfl) (by kernel_rfl) rfl ?_
  simp -implicitDefEqProofs [Try.f69, tDir, encL_app, encL, encT, szL, szT]
  refine ⟨fun h => eqB_ne fun e => h (by cases e; rfl), fun h0 => ?_⟩
  refine callK_of (c_eqArgS x1 y1 _) ?_
  simp -implicitDefEqProofs
  refine ⟨fun h => eqB_ne fun e => (by cases e; rw [eqB_self] at h; cases h), fun h1 => ?_⟩
  rw [eqB_iff] at h1
  rw [eqB_iff]
  try cases h0
  try cases h1
  rfl
theorem c_eqDirS (xs ys : List DDir) (K) : Ct Try.prog 48 [.sl .no xs.length (encR .no (tDirS xs)), .sl .no ys.length (encR .no (tDirS ys))] K (.bool (eqB xs ys)) K := by
  refine ct_fn { n0 := 6, ex := [], tk := [] } Try.func48 rfl (by kernel_rfl) (by kernel_rfl) rfl ?_
  simp -implicitDefEqProofs [Try.f48]
  intro h1 h2
  refine ⟨fun h => eqB_ne fun e => h (by rw [e]), fun hlen => ?_⟩
  refine wC_loop (fun m s => ∃ i, i ≤ xs.length ∧ m = xs.length - i ∧ xs.take i = ys.take i ∧
    s = { env := [(0, .sl .no xs.length (encR .no (tDirS xs))), (1, .sl .no ys.length (encR .no (tDirS ys))), (4, .bool false), (5, .int .i64 i)], loc := [], K := [] :: K }) xs.length _
    (St.le_of (by simp) (by simp) rfl rfl) ⟨0, by omega, rfl, by simp, rfl⟩ ?_
  rintro m _ ⟨i, hi, rfl, hz, rfl⟩
  rcases Nat.lt_or_ge i xs.length with hlt | hge
  · obtain ⟨x, hx⟩ : ∃ x, xs[i]? = some x := ⟨_, List.getElem?_eq_getElem hlt⟩
    obtain ⟨z, hz2⟩ : ∃ x, ys[i]? = some x := ⟨_, List.getElem?_eq_getElem (by omega)⟩
    have ea := atDir (m := .no) hx
    have eb := atDir (m := .no) hz2
    have hek := encL_len (m := .no) (r := tDir x)
    have hek2 := encL_len (m := .no) (r := tDir z)
    rw [tDir_len] at hek hek2
    have hc := fun K => c_eqDir x z K
    have htk : (encL .no (tDir x)).take 2 = encL .no (tDir x) := List.take_of_length_le (by omega)
    have htk2 : (encL .no (tDir z)).take 2 = encL .no (tDir z) := List.take_of_length_le (by omega)
    simp -implicitDefEqProofs [hlt, ea, eb, hek, hek2, htk, htk2, encDirS_len]
    intro _
    refine wRun_draw true rfl (by decide +kernel) ?_
    simp -implicitDefEqProofs [hlt, ea, eb, hek, hek2, htk, htk2, encDirS_len]
    refine ⟨by omega, ?_⟩
    refine callK_of (hc _) ?_
    simp -implicitDefEqProofs
    refine ⟨fun h3 => eqB_ne fun e => (by rw [e, hz2] at hx; cases hx; rw [eqB_self] at h3; cases h3), fun h3 => ?_⟩
    rw [eqB_iff] at h3
    subst h3
    unfold maxLen at *
    simp (disch := omega) only [wrap64]
    refine ⟨xs.length - (i + 1), by omega, _, St.le_of (by simp) ?_ rfl (by simp [St.trunc]), i + 1, by omega, rfl, ?_, rfl⟩
    · simp [St.trunc, look, mapV, mapC]
    · rw [List.take_add_one, List.take_add_one, hz, hx, hz2]
  · have e : i = xs.length := by omega
    subst e
    simp -implicitDefEqProofs
    intro _
    refine (eqB_iff.2 ?_)
    rw [List.take_of_length_le (by omega), List.take_of_length_le (by omega)] at hz
    exact hz
theorem c_szSel_rec : ∀ N : Nat, (∀ (a : DSel) (l : Int) (K : List (List (List AC))) (h1 : 0 ≤ l) (h2 : l ≤ 1048576) (hN : SizeOf.sizeOf a < N), ∃ r, Ct Try.prog 18 [.agg (encL .no (tSel a)), .int .i64 l] K (.int .i64 r) K ∧ SZ l (szL (tSel a)) r) ∧ (∀ (xs : List DSel) (l : Int) (K : List (List (List AC))) (h1 : 0 ≤ l) (h2 : l ≤ 1048576) (hN : SizeOf.sizeOf xs < N), ∃ r, Ct Try.prog 5 [.sl .no xs.length (encR .no (tSelS xs)), .int .i64 l] K (.int .i64 r) K ∧ SZ l (xs.length + szR (tSelS xs)) r) := by
  intro N
  induction N with
  | zero => exact ⟨fun a => by intros; omega, fun xs => by intros; omega⟩
  | succ N ih =>
  refine ⟨?_, ?_⟩
  · intro a l K h1 h2 hN
    obtain ⟨x0, x1, x2, x3, x4, x5, x6⟩ := a
    have es : szL (tSel ⟨x0, x1, x2, x3, x4, x5, x6⟩) = x1.length + x2.length + x3.length + (x4.length + szR (tArgS x4)) + (x5.length + szR (tDirS x5)) + (x6.length + szR (tSelS x6)) := by simp [tSel, encL_app, encL, encT, szL, szT]; try omega
    refine ⟨_, ?_, subz_SZ _ _⟩
    rw [es]
    refine ct_fn { n0 := 5, ex := [], tk := [] } Try.func18 rfl (by kernel_rfl) (by kernel_rfl) rfl ?_
    simp -implicitDefEqProofs [Try.f18, tSel, encL_app, encL, encT, szL, szT]
    intro hn1
    unfold maxLen at hn1
    simp (disch := omega) only [wrap64]
    refine ⟨fun h => by unfold subz; rw [if_pos (by omega)], fun h1 => ?_⟩
    intro hn2
    unfold maxLen at hn2
    simp (disch := omega) only [wrap64]
    refine ⟨fun h => by unfold subz; rw [if_pos (by omega)], fun h2 => ?_⟩
    intro hn3
    unfold maxLen at hn3
    simp (disch := omega) only [wrap64]
    refine ⟨fun h => by unfold subz; rw [if_pos (by omega)], fun h3 => ?_⟩
    obtain ⟨r4, hc, hr4⟩ := c_szArgS x4 (((l - x1.length) - x2.length) - x3.length) _ (by omega) (by omega)
    refine callK_of hc ?_
    simp -implicitDefEqProofs
    unfold SZ at hr4
    refine ⟨fun h => by unfold subz; rw [if_pos (by omega)], fun h4 => ?_⟩
    obtain ⟨r5, hc, hr5⟩ := c_szDirS x5 r4 _ (by omega) (by omega)
    refine callK_of hc ?_
    simp -implicitDefEqProofs
    unfold SZ at hr5
    refine ⟨fun h => by unfold subz; rw [if_pos (by omega)], fun h5 => ?_⟩
    obtain ⟨r6, hc, hr6⟩ := ih.2 x6 r5 _ (by omega) (by omega) (by simp at hN; omega)
    refine callK_of hc ?_
    simp -implicitDefEqProofs
    unfold SZ at hr6
    refine ⟨fun h => by unfold subz; rw [if_pos (by omega)], fun h6 => ?_⟩
    unfold subz; rw [if_neg (by omega)]; try omega
  · intro xs l K h1 h2 hN
    refine ⟨_, ?_, subz_SZ _ _⟩
    refine ct_fn { n0 := 6, ex := [], tk := [] } Try.func5 rfl (by kernel_rfl) (by kernel_rfl) rfl ?_
    simp -implicitDefEqProofs [Try.f5]
    intro hn
    unfold maxLen at hn
    simp (disch := omega) only [wrap64]
    refine ⟨fun h => by unfold subz; rw [if_pos (by omega)], fun h => ?_⟩
    refine wC_loop (fun m s => ∃ i, i ≤ xs.length ∧ m = xs.length - i ∧ ((szR ((tSelS xs).take i) : Nat) : Int) ≤ l - xs.length ∧
      s = { env := [(0, .sl .no xs.length (encR .no (tSelS xs))), (1, .int .i64 (l - xs.length - szR ((tSelS xs).take i))), (4, .int .i64 0), (5, .int .i64 i)], loc := [], K := [] :: K }) xs.length _
      (St.le_of (by simp) (by simp [szR]) rfl rfl) ⟨0, by omega, rfl, by simp [szR]; omega, by simp [szR]⟩ ?_
    rintro m _ ⟨i, hi, rfl, hz, rfl⟩
    rcases Nat.lt_or_ge i xs.length with hlt | hge
    · obtain ⟨x, hx⟩ : ∃ x, xs[i]? = some x := ⟨_, List.getElem?_eq_getElem hlt⟩
      have ea := atSel (m := .no) hx
      have es := szR_get (tSelS_get hx)
      have el := szR_take_le (rs := tSelS xs) (i + 1)
      obtain ⟨r, hc, hr⟩ := ih.1 x (l - xs.length - szR ((tSelS xs).take i)) ([] :: K) (by omega) (by omega) (by have := List.sizeOf_lt_of_mem (List.mem_of_getElem? hx); omega)
      unfold SZ at hr
      have hek := encL_len (m := .no) (r := tSel x)
      rw [tSel_len] at hek
      have htk : (encL .no (tSel x)).take 7 = encL .no (tSel x) := List.take_of_length_le (by omega)
      simp -implicitDefEqProofs [hlt, ea, hek, htk, encSelS_len]
      intro _
      refine callK_of hc ?_
      simp -implicitDefEqProofs
      unfold maxLen at *
      refine ⟨fun h3 => by unfold subz; rw [if_pos (by omega)], fun h3 => ?_⟩
      simp (disch := omega) only [wrap64]
      refine ⟨xs.length - (i + 1), by omega, _, St.le_of (by simp) ?_ rfl (by simp [St.trunc]), i + 1, by omega, rfl, by omega, rfl⟩
      have e3 : r = l - xs.length - (szR ((tSelS xs).take (i + 1)) : Nat) := by omega
      simp [St.trunc, look, mapV, mapC, e3]
    · have e : i = xs.length := by omega
      subst e
      simp -implicitDefEqProofs
      intro _
      have et : (tSelS xs).take xs.length = tSelS xs := List.take_of_length_le (by simp)
      rw [et] at hz ⊢
      unfold subz; rw [if_neg (by omega)]; try omega
theorem c_szSel (a : DSel) (l : Int) (K) (h1 : 0 ≤ l) (h2 : l ≤ 1048576) : ∃ r, Ct Try.prog 18 [.agg (encL .no (tSel a)), .int .i64 l] K (.int .i64 r) K ∧ SZ l (szL (tSel a)) r := (c_szSel_rec _).1 a l K h1 h2 (Nat.lt_succ_self _)
theorem c_szSelS (xs : List DSel) (l : Int) (K) (h1 : 0 ≤ l) (h2 : l ≤ 1048576) : ∃ r, Ct Try.prog 5 [.sl .no xs.length (encR .no (tSelS xs)), .int .i64 l] K (.int .i64 r) K ∧ SZ l (xs.length + szR (tSelS xs)) r := (c_szSel_rec _).2 xs l K h1 h2 (Nat.lt_succ_self _)
theorem c_toSel_rec : ∀ N : Nat, (∀ (a : DSel) (K : List (List (List AC))) (hs : szL (tSel a) ≤ 1048576) (hN : SizeOf.sizeOf a < N), Ct Try.prog 24 [.agg (encL .no (tSel a))] K (.agg (encL .ex (tSel a))) K) ∧ (∀ (xs : List DSel) (K : List (List (List AC))) (hs : xs.length + szR (tSelS xs) ≤ 1048576) (hN : SizeOf.sizeOf xs < N), Ct Try.prog 8 [.sl .no xs.length (encR .no (tSelS xs))] K (.sl (.ex 57) xs.length (encR .ex (tSelS xs))) K) := by
  intro N
  induction N with
  | zero => exact ⟨fun a => by intros; omega, fun xs => by intros; omega⟩
  | succ N ih =>
  refine ⟨?_, ?_⟩
  · intro a K hs hN
    obtain ⟨x0, x1, x2, x3, x4, x5, x6⟩ := a
    have es : szL (tSel ⟨x0, x1, x2, x3, x4, x5, x6⟩) = x1.length + x2.length + x3.length + (x4.length + szR (tArgS x4)) + (x5.length + szR (tDirS x5)) + (x6.length + szR (tSelS x6)) := by simp [tSel, encL_app, encL, encT, szL, szT]; try omega
    rw [es] at hs
    refine ct_fn { n0 := 4, ex := [], tk := [18, 22, 26, 28] } Try.func24 rfl (by kernel_rfl) (by kernel_rfl) rfl ?_
    simp -implicitDefEqProofs [Try.f24, tSel, encL_app, encL, encT, szL, szT]
    refine callK_of (c_toArgS x4 _ (by omega)) ?_
    simp -implicitDefEqProofs
    refine callK_of (c_toDirS x5 _ (by omega)) ?_
    simp -implicitDefEqProofs
    refine callK_of (ih.2 x6 _ (by omega) (by simp at hN; omega)) ?_
    simp -implicitDefEqProofs
  · intro xs K hs hN
    refine ct_fn { n0 := 5, ex := [], tk := [7, 20, 22], kp := [7], es := true } Try.func8 rfl (by kernel_rfl) (by kernel_rfl) rfl ?_
    simp -implicitDefEqProofs [Try.f8]
    intro h1
    unfold maxLen at h1
    refine ⟨by unfold maxLen; omega, fun y => ?_⟩
    have e0 : (List.replicate xs.length ([.int .i64 0, .str [], .str [], .str [], .sl .nil 0 [], .sl .nil 0 [], .sl .nil 0 []] : List AC)).flatten = filled .ex [.int .i64 0, .str [], .str [], .str [], .sl .nil 0 [], .sl .nil 0 [], .sl .nil 0 []] (tSelS xs) 0 := by rw [filled_zero]; simp
    rw [e0]
    refine wC_for (fun i => { env := [(0, .sl .no xs.length (encR .no (tSelS xs))), (2, .sl .nil 0 []), (3, .nam y (.sl (.ex 57) xs.length (filled .ex [.int .i64 0, .str [], .str [], .str [], .sl .nil 0 [], .sl .nil 0 [], .sl .nil 0 []] (tSelS xs) i))), (4, .int .i64 i)], loc := [], K := [] :: K }) xs.length (St.le_of (by simp) (by simp) rfl rfl) ?_
    intro i hi
    have efl := filled_len (m := .ex) (z := [.int .i64 0, .str [], .str [], .str [], .sl .nil 0 [], .sl .nil 0 [], .sl .nil 0 []]) (i := i) (tSelS_rows (xs := xs)) rfl (by simpa using hi)
    rcases Nat.lt_or_ge i xs.length with hlt | hge
    · obtain ⟨x, hx⟩ : ∃ x, xs[i]? = some x := ⟨_, List.getElem?_eq_getElem hlt⟩
      have ea := atSel (m := .no) hx
      have ef := filled_next (m := .ex) (z := [.int .i64 0, .str [], .str [], .str [], .sl .nil 0 [], .sl .nil 0 [], .sl .nil 0 []]) tSelS_rows rfl (tSelS_get hx)
      have es := szR_get (tSelS_get hx)
      have el := szR_take_le (rs := tSelS xs) (i + 1)
      have hc := fun K => ih.1 x K (by omega) (by have := List.sizeOf_lt_of_mem (List.mem_of_getElem? hx); omega)
      have hek := encL_len (m := .no) (r := tSel x)
      have hek2 := encL_len (m := .ex) (r := tSel x)
      have hfl := flat_enc (m := .ex) (r := tSel x)
      rw [tSel_len] at hek hek2
      unfold putCells at ef
      rw [hek2] at ef
      have htk : (encL .no (tSel x)).take 7 = encL .no (tSel x) := List.take_of_length_le (by omega)
      simp -implicitDefEqProofs [hlt, ea, hek, htk, encSelS_len]
      intro _
      refine callK_of (hc _) ?_
      have hfl2 : (encL .ex (tSel x)).all flat = true := List.all_eq_true.2 hfl
      rw [tSelS_len] at efl
      simp -implicitDefEqProofs [hek2, efl, ef, hfl2, hlt]
      refine ⟨by omega, ?_⟩
      unfold maxLen at *
      simp (disch := omega) only [wrap64]
      exact for_next hlt (St.le_of (by simp) (by simp [St.trunc, look, mapV, mapC]) rfl (by simp [St.trunc]))
    · have e : i = xs.length := by omega
      subst e
      have eq : filled .ex [.int .i64 0, .str [], .str [], .str [], .sl .nil 0 [], .sl .nil 0 [], .sl .nil 0 []] (tSelS xs) xs.length = encR .ex (tSelS xs) := by rw [← filled_all (z := ([.int .i64 0, .str [], .str [], .str [], .sl .nil 0 [], .sl .nil 0 [], .sl .nil 0 []] : List AC))]; simp
      simp -implicitDefEqProofs [eq]
theorem c_toSel (a : DSel) (K) (hs : szL (tSel a) ≤ 1048576) : Ct Try.prog 24 [.agg (encL .no (tSel a))] K (.agg (encL .ex (tSel a))) K := (c_toSel_rec _).1 a K hs (Nat.lt_succ_self _)
theorem c_toSelS (xs : List DSel) (K) (hs : xs.length + szR (tSelS xs) ≤ 1048576) : Ct Try.prog 8 [.sl .no xs.length (encR .no (tSelS xs))] K (.sl (.ex 57) xs.length (encR .ex (tSelS xs))) K := (c_toSel_rec _).2 xs K hs (Nat.lt_succ_self _)
theorem c_eqSel_rec : ∀ N : Nat, (∀ (a b : DSel) (K : List (List (List AC))) (hN : SizeOf.sizeOf a < N), Ct Try.prog 31 [.agg (encL .no (tSel a)), .agg (encL .no (tSel b))] K (.bool (eqB a b)) K) ∧ (∀ (xs ys : List DSel) (K : List (List (List AC))) (hN : SizeOf.sizeOf xs < N), Ct Try.prog 12 [.sl .no xs.length (encR .no (tSelS xs)), .sl .no ys.length (encR .no (tSelS ys))] K (.bool (eqB xs ys)) K) := by
  intro N
  induction N with
  | zero => exact ⟨fun a => by intros; omega, fun xs => by intros; omega⟩
  | succ N ih =>
  refine ⟨?_, ?_⟩
  · intro a b K hN
    obtain ⟨x0, x1, x2, x3, x4, x5, x6⟩ := a
    obtain ⟨y0, y1, y2, y3, y4, y5, y6⟩ := b
    refine ct_fn { n0 := 5, ex := [], tk := [] } Try.func31 rfl (by kernel_rfl) (by kernel_rfl) rfl ?_
    simp -implicitDefEqProofs [Try.f31, tSel, encL_app, encL, encT, szL, szT]
    refine ⟨fun h => eqB_ne fun e => h (by cases e; rfl), fun h0 => ?_⟩
    refine ⟨fun h => eqB_ne fun e => h (by cases e; rfl), fun h1 => ?_⟩
    refine ⟨fun h => eqB_ne fun e => h (by cases e; rfl), fun h2 => ?_⟩
    refine ⟨fun h => eqB_ne fun e => h (by cases e; rfl), fun h3 => ?_⟩
    refine callK_of (c_eqArgS x4 y4 _) ?_
    simp -implicitDefEqProofs
    refine ⟨fun h => eqB_ne fun e => (by cases e; rw [eqB_self] at h; cases h), fun h4 => ?_⟩
    rw [eqB_iff] at h4
    refine callK_of (c_eqDirS x5 y5 _) ?_
    simp -implicitDefEqProofs
    refine ⟨fun h => eqB_ne fun e => (by cases e; rw [eqB_self] at h; cases h), fun h5 => ?_⟩
    rw [eqB_iff] at h5
    refine callK_of (ih.2 x6 y6 _ (by simp at hN; omega)) ?_
    simp -implicitDefEqProofs
    refine ⟨fun h => eqB_ne fun e => (by cases e; rw [eqB_self] at h; cases h), fun h6 => ?_⟩
    rw [eqB_iff] at h6
    rw [eqB_iff]
    try cases h0
    try cases h1
    try cases h2
    try cases h3
    try cases h4
    try cases h5
    try cases h6
    rfl
  · intro xs ys K hN
    refine ct_fn { n0 := 6, ex := [], tk := [] } Try.func12 rfl (by kernel_rfl) (by kernel_rfl) rfl ?_
    simp -implicitDefEqProofs [Try.f12]
    intro h1 h2
    refine ⟨fun h => eqB_ne fun e => h (by rw [e]), fun hlen => ?_⟩
    refine wC_loop (fun m s => ∃ i, i ≤ xs.length ∧ m = xs.length - i ∧ xs.take i = ys.take i ∧
      s = { env := [(0, .sl .no xs.length (encR .no (tSelS xs))), (1, .sl .no ys.length (encR .no (tSelS ys))), (4, .bool false), (5, .int .i64 i)], loc := [], K := [] :: K }) xs.length _
      (St.le_of (by simp) (by simp) rfl rfl) ⟨0, by omega, rfl, by simp, rfl⟩ ?_
    rintro m _ ⟨i, hi, rfl, hz, rfl⟩
    rcases Nat.lt_or_ge i xs.length with hlt | hge
    · obtain ⟨x, hx⟩ : ∃ x, xs[i]? = some x := ⟨_, List.getElem?_eq_getElem hlt⟩
      obtain ⟨z, hz2⟩ : ∃ x, ys[i]? = some x := ⟨_, List.getElem?_eq_getElem (by omega)⟩
      have ea := atSel (m := .no) hx
      have eb := atSel (m := .no) hz2
      have hek := encL_len (m := .no) (r := tSel x)
      have hek2 := encL_len (m := .no) (r := tSel z)
      rw [tSel_len] at hek hek2
      have hc := fun K => ih.1 x z K (by have := List.sizeOf_lt_of_mem (List.mem_of_getElem? hx); omega)
      have htk : (encL .no (tSel x)).take 7 = encL .no (tSel x) := List.take_of_length_le (by omega)
      have htk2 : (encL .no (tSel z)).take 7 = encL .no (tSel z) := List.take_of_length_le (by omega)
      simp -implicitDefEqProofs [hlt, ea, eb, hek, hek2, htk, htk2, encSelS_len]
      intro _
      refine wRun_draw true rfl (by decide +kernel) ?_
      simp -implicitDefEqProofs [hlt, ea, eb, hek, hek2, htk, htk2, encSelS_len]
      refine ⟨by omega, ?_⟩
      refine callK_of (hc _) ?_
      simp -implicitDefEqProofs
      refine ⟨fun h3 => eqB_ne fun e => (by rw [e, hz2] at hx; cases hx; rw [eqB_self] at h3; cases h3), fun h3 => ?_⟩
      rw [eqB_iff] at h3
      subst h3
      unfold maxLen at *
      simp (disch := omega) only [wrap64]
      refine ⟨xs.length - (i + 1), by omega, _, St.le_of (by simp) ?_ rfl (by simp [St.trunc]), i + 1, by omega, rfl, ?_, rfl⟩
      · simp [St.trunc, look, mapV, mapC]
      · rw [List.take_add_one, List.take_add_one, hz, hx, hz2]
    · have e : i = xs.length := by omega
      subst e
      simp -implicitDefEqProofs
      intro _
      refine (eqB_iff.2 ?_)
      rw [List.take_of_length_le (by omega), List.take_of_length_le (by omega)] at hz
      exact hz
theorem c_eqSel (a b : DSel) (K) : Ct Try.prog 31 [.agg (encL .no (tSel a)), .agg (encL .no (tSel b))] K (.bool (eqB a b)) K := (c_eqSel_rec _).1 a b K (Nat.lt_succ_self _)
theorem c_eqSelS (xs ys : List DSel) (K) : Ct Try.prog 12 [.sl .no xs.length (encR .no (tSelS xs)), .sl .no ys.length (encR .no (tSelS ys))] K (.bool (eqB xs ys)) K := (c_eqSel_rec _).2 xs ys K (Nat.lt_succ_self _)
theorem c_szFrag (a : DFrag) (l : Int) (K) (h1 : 0 ≤ l) (h2 : l ≤ 1048576) : ∃ r, Ct Try.prog 17 [.agg (encL .no (tFrag a)), .int .i64 l] K (.int .i64 r) K ∧ SZ l (szL (tFrag a)) r := by
  obtain ⟨x0, x1, x2, x3⟩ := a
  have es : szL (tFrag ⟨x0, x1, x2, x3⟩) = x0.length + x1.length + (x2.length + szR (tDirS x2)) + (x3.length + szR (tSelS x3)) := by simp [tFrag, encL_app, encL, encT, szL, szT]; try omega
  refine ⟨_, ?_, subz_SZ _ _⟩
  rw [es]
  refine ct_fn { n0 := 5, ex := [], tk := [] } Try.func17 rfl (by kernel_rfl) (by kernel_rfl) rfl ?_
  simp -implicitDefEqProofs [Try.f17, tFrag, encL_app, encL, encT, szL, szT]
  intro hn0
  unfold maxLen at hn0
  simp (disch := omega) only [wrap64]
  refine ⟨fun h => by unfold subz; rw [if_pos (by omega)], fun h0 => ?_⟩
  intro hn1
  unfold maxLen at hn1
  simp (disch := omega) only [wrap64]
  refine ⟨fun h => by unfold subz; rw [if_pos (by omega)], fun h1 => ?_⟩
  obtain ⟨r2, hc, hr2⟩ := c_szDirS x2 ((l - x0.length) - x1.length) _ (by omega) (by omega)
  refine callK_of hc ?_
  simp -implicitDefEqProofs
  unfold SZ at hr2
  refine ⟨fun h => by unfold subz; rw [if_pos (by omega)], fun h2 => ?_⟩
  obtain ⟨r3, hc, hr3⟩ := c_szSelS x3 r2 _ (by omega) (by omega)
  refine callK_of hc ?_
  simp -implicitDefEqProofs
  unfold SZ at hr3
  refine ⟨fun h => by unfold subz; rw [if_pos (by omega)], fun h3 => ?_⟩
  unfold subz; rw [if_neg (by omega)]; try omega
theorem c_szFragS (xs : List DFrag) (l : Int) (K) (h1 : 0 ≤ l) (h2 : l ≤ 1048576) : ∃ r, Ct Try.prog 4 [.sl .no xs.length (encR .no (tFragS xs)), .int .i64 l] K (.int .i64 r) K ∧ SZ l (xs.length + szR (tFragS xs)) r := by
  refine ⟨_, ?_, subz_SZ _ _⟩
  refine ct_fn { n0 := 6, ex := [], tk := [] } Try.func4 rfl (by kernel_rfl) (by kernel_rfl) rfl ?_
  simp -implicitDefEqProofs [Try.f4]
  intro hn
  unfold maxLen at hn
  simp (disch := omega) only [wrap64]
  refine ⟨fun h => by unfold subz; rw [if_pos (by omega)], fun h => ?_⟩
  refine wC_loop (fun m s => ∃ i, i ≤ xs.length ∧ m = xs.length - i ∧ ((szR ((tFragS xs).take i) : Nat) : Int) ≤ l - xs.length ∧
    s = { env := [(0, .sl .no xs.length (encR .no (tFragS xs))), (1, .int .i64 (l - xs.length - szR ((tFragS xs).take i))), (4, .int .i64 0), (5, .int .i64 i)], loc := [], K := [] :: K }) xs.length _
    (St.le_of (by simp) (by simp [szR]) rfl rfl) ⟨0, by omega, rfl, by simp [szR]; omega, by simp [szR]⟩ ?_
  rintro m _ ⟨i, hi, rfl, hz, rfl⟩
  rcases Nat.lt_or_ge i xs.length with hlt | hge
  · obtain ⟨x, hx⟩ : ∃ x, xs[i]? = some x := ⟨_, List.getElem?_eq_getElem hlt⟩
    have ea := atFrag (m := .no) hx
    have es := szR_get (tFragS_get hx)
    have el := szR_take_le (rs := tFragS xs) (i + 1)
    obtain ⟨r, hc, hr⟩ := c_szFrag x (l - xs.length - szR ((tFragS xs).take i)) ([] :: K) (by omega) (by omega)
    unfold SZ at hr
    have hek := encL_len (m := .no) (r := tFrag x)
    rw [tFrag_len] at hek
    have htk : (encL .no (tFrag x)).take 4 = encL .no (tFrag x) := List.take_of_length_le (by omega)
    simp -implicitDefEqProofs [hlt, ea, hek, htk, encFragS_len]
    intro _
    refine callK_of hc ?_
    simp -implicitDefEqProofs
    unfold maxLen at *
    refine ⟨fun h3 => by unfold subz; rw [if_pos (by omega)], fun h3 => ?_⟩
    simp (disch := omega) only [wrap64]
    refine ⟨xs.length - (i + 1), by omega, _, St.le_of (by simp) ?_ rfl (by simp [St.trunc]), i + 1, by omega, rfl, by omega, rfl⟩
    have e3 : r = l - xs.length - (szR ((tFragS xs).take (i + 1)) : Nat) := by omega
    simp [St.trunc, look, mapV, mapC, e3]
  · have e : i = xs.length := by omega
    subst e
    simp -implicitDefEqProofs
    intro _
    have et : (tFragS xs).take xs.length = tFragS xs := List.take_of_length_le (by simp)
    rw [et] at hz ⊢
    unfold subz; rw [if_neg (by omega)]; try omega
theorem c_toFrag (a : DFrag) (K) (hs : szL (tFrag a) ≤ 1048576) : Ct Try.prog 23 [.agg (encL .no (tFrag a))] K (.agg (encL .ex (tFrag a))) K := by
  obtain ⟨x0, x1, x2, x3⟩ := a
  have es : szL (tFrag ⟨x0, x1, x2, x3⟩) = x0.length + x1.length + (x2.length + szR (tDirS x2)) + (x3.length + szR (tSelS x3)) := by simp [tFrag, encL_app, encL, encT, szL, szT]; try omega
  rw [es] at hs
  refine ct_fn { n0 := 4, ex := [], tk := [12, 16, 18] } Try.func23 rfl (by kernel_rfl) (by kernel_rfl) rfl ?_
  simp -implicitDefEqProofs [Try.f23, tFrag, encL_app, encL, encT, szL, szT]
  refine callK_of (c_toDirS x2 _ (by omega)) ?_
  simp -implicitDefEqProofs
  refine callK_of (c_toSelS x3 _ (by omega)) ?_
  simp -implicitDefEqProofs
theorem c_toFragS (xs : List DFrag) (K) (hs : xs.length + szR (tFragS xs) ≤ 1048576) : Ct Try.prog 7 [.sl .no xs.length (encR .no (tFragS xs))] K (.sl (.ex 51) xs.length (encR .ex (tFragS xs))) K := by
  refine ct_fn { n0 := 5, ex := [], tk := [7, 20, 22], kp := [7], es := true } Try.func7 rfl (by kernel_rfl) (by kernel_rfl) rfl ?_
  simp -implicitDefEqProofs [Try.f7]
  intro h1
  unfold maxLen at h1
  refine ⟨by unfold maxLen; omega, fun y => ?_⟩
  have e0 : (List.replicate xs.length ([.str [], .str [], .sl .nil 0 [], .sl .nil 0 []] : List AC)).flatten = filled .ex [.str [], .str [], .sl .nil 0 [], .sl .nil 0 []] (tFragS xs) 0 := by rw [filled_zero]; simp
  rw [e0]
  refine wC_for (fun i => { env := [(0, .sl .no xs.length (encR .no (tFragS xs))), (2, .sl .nil 0 []), (3, .nam y (.sl (.ex 51) xs.length (filled .ex [.str [], .str [], .sl .nil 0 [], .sl .nil 0 []] (tFragS xs) i))), (4, .int .i64 i)], loc := [], K := [] :: K }) xs.length (St.le_of (by simp) (by simp) rfl rfl) ?_
  intro i hi
  have efl := filled_len (m := .ex) (z := [.str [], .str [], .sl .nil 0 [], .sl .nil 0 []]) (i := i) (tFragS_rows (xs := xs)) rfl (by simpa using hi)
  rcases Nat.lt_or_ge i xs.length with hlt | hge
  · obtain ⟨x, hx⟩ : ∃ x, xs[i]? = some x := ⟨_, List.getElem?_eq_getElem hlt⟩
    have ea := atFrag (m := .no) hx
    have ef := filled_next (m := .ex) (z := [.str [], .str [], .sl .nil 0 [], .sl .nil 0 []]) tFragS_rows rfl (tFragS_get hx)
    have es := szR_get (tFragS_get hx)
    have el := szR_take_le (rs := tFragS xs) (i + 1)
    have hc := fun K => c_toFrag x K (by omega)
    have hek := encL_len (m := .no) (r := tFrag x)
    have hek2 := encL_len (m := .ex) (r := tFrag x)
    have hfl := flat_enc (m := .ex) (r := tFrag x)
    rw [tFrag_len] at hek hek2
    unfold putCells at ef
    rw [hek2] at ef
    have htk : (encL .no (tFrag x)).take 4 = encL .no (tFrag x) := List.take_of_length_le (by omega)
    simp -implicitDefEqProofs [hlt, ea, hek, htk, encFragS_len]
    intro _
    refine callK_of (hc _) ?_
    have hfl2 : (encL .ex (tFrag x)).all flat = true := List.all_eq_true.2 hfl
    rw [tFragS_len] at efl
    simp -implicitDefEqProofs [hek2, efl, ef, hfl2, hlt]
    refine ⟨by omega, ?_⟩
    unfold maxLen at *
    simp (disch := omega) only [wrap64]
    exact for_next hlt (St.le_of (by simp) (by simp [St.trunc, look, mapV, mapC]) rfl (by simp [St.trunc]))
  · have e : i = xs.length := by omega
    subst e
    have eq : filled .ex [.str [], .str [], .sl .nil 0 [], .sl .nil 0 []] (tFragS xs) xs.length = encR .ex (tFragS xs) := by rw [← filled_all (z := ([.str [], .str [], .sl .nil 0 [], .sl .nil 0 []] : List AC))]; simp
    simp -implicitDefEqProofs [eq]
theorem c_eqFrag (a b : DFrag) (K) : Ct Try.prog 30 [.agg (encL .no (tFrag a)), .agg (encL .no (tFrag b))] K (.bool (eqB a b)) K := by
  obtain ⟨x0, x1, x2, x3⟩ := a
  obtain ⟨y0, y1, y2, y3⟩ := b
  refine ct_fn { n0 := 5, ex := [], tk := [] } Try.func30 rfl (by kernel_rfl) (by kernel_rfl) rfl ?_
  simp -implicitDefEqProofs [Try.f30, tFrag, encL_app, encL, encT, szL, szT]
  refine ⟨fun h => eqB_ne fun e => h (by cases e; rfl), fun h0 => ?_⟩
  refine ⟨fun h => eqB_ne fun e => h (by cases e; rfl), fun h1 => ?_⟩
  refine callK_of (c_eqDirS x2 y2 _) ?_
  simp -implicitDefEqProofs
  refine ⟨fun h => eqB_ne fun e => (by cases e; rw [eqB_self] at h; cases h), fun h2 => ?_⟩
  rw [eqB_iff] at h2
  refine callK_of (c_eqSelS x3 y3 _) ?_
  simp -implicitDefEqProofs
  refine ⟨fun h => eqB_ne fun e => (by cases e; rw [eqB_self] at h; cases h), fun h3 => ?_⟩
  rw [eqB_iff] at h3
  rw [eqB_iff]
  try cases h0
  try cases h1
  try cases h2
  try cases h3
  rfl
theorem c_eqFragS (xs ys : List DFrag) (K) : Ct Try.prog 11 [.sl .no xs.length (encR .no (tFragS xs)), .sl .no ys.length (encR .no (tFragS ys))] K (.bool (eqB xs ys)) K := by
  refine ct_fn { n0 := 6, ex := [], tk := [] } Try.func11 rfl (by kernel_rfl) (by kernel_rfl) rfl ?_
  simp -implicitDefEqProofs [Try.f11]
  intro h1 h2
  refine ⟨fun h => eqB_ne fun e => h (by rw [e]), fun hlen => ?_⟩
  refine wC_loop (fun m s => ∃ i, i ≤ xs.length ∧ m = xs.length - i ∧ xs.take i = ys.take i ∧
    s = { env := [(0, .sl .no xs.length (encR .no (tFragS xs))), (1, .sl .no ys.length (encR .no (tFragS ys))), (4, .bool false), (5, .int .i64 i)], loc := [], K := [] :: K }) xs.length _
    (St.le_of (by simp) (by simp) rfl rfl) ⟨0, by omega, rfl, by simp, rfl⟩ ?_
  rintro m _ ⟨i, hi, rfl, hz, rfl⟩
  rcases Nat.lt_or_ge i xs.length with hlt | hge
  · obtain ⟨x, hx⟩ : ∃ x, xs[i]? = some x := ⟨_, List.getElem?_eq_getElem hlt⟩
    obtain ⟨z, hz2⟩ : ∃ x, ys[i]? = some x := ⟨_, List.getElem?_eq_getElem (by omega)⟩
    have ea := atFrag (m := .no) hx
    have eb := atFrag (m := .no) hz2
    have hek := encL_len (m := .no) (r := tFrag x)
    have hek2 := encL_len (m := .no) (r := tFrag z)
    rw [tFrag_len] at hek hek2
    have hc := fun K => c_eqFrag x z K
    have htk : (encL .no (tFrag x)).take 4 = encL .no (tFrag x) := List.take_of_length_le (by omega)
    have htk2 : (encL .no (tFrag z)).take 4 = encL .no (tFrag z) := List.take_of_length_le (by omega)
    simp -implicitDefEqProofs [hlt, ea, eb, hek, hek2, htk, htk2, encFragS_len]
    intro _
    refine wRun_draw true rfl (by decide +kernel) ?_
    simp -implicitDefEqProofs [hlt, ea, eb, hek, hek2, htk, htk2, encFragS_len]
    refine ⟨by omega, ?_⟩
    refine callK_of (hc _) ?_
    simp -implicitDefEqProofs
    refine ⟨fun h3 => eqB_ne fun e => (by rw [e, hz2] at hx; cases hx; rw [eqB_self] at h3; cases h3), fun h3 => ?_⟩
    rw [eqB_iff] at h3
    subst h3
    unfold maxLen at *
    simp (disch := omega) only [wrap64]
    refine ⟨xs.length - (i + 1), by omega, _, St.le_of (by simp) ?_ rfl (by simp [St.trunc]), i + 1, by omega, rfl, ?_, rfl⟩
    · simp [St.trunc, look, mapV, mapC]
    · rw [List.take_add_one, List.take_add_one, hz, hx, hz2]
  · have e : i = xs.length := by omega
    subst e
    simp -implicitDefEqProofs
    intro _
    refine (eqB_iff.2 ?_)
    rw [List.take_of_length_le (by omega), List.take_of_length_le (by omega)] at hz
    exact hz
end Go.Proofs.Ytkpdlbidadcdjaa.Abs
