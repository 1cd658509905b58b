/- PRINTED by fam.py: what the laws do with data. No condition. -/
import Derived.Test.YtkpdlbidadcdjaaDoorFStr
set_option linter.unusedVariables false
set_option linter.unusedSimpArgs false
namespace Go.Proofs.YtkpdlbidadcdjaaDoor.Abs
open Go
set_option maxHeartbeats 2000000
set_option maxRecDepth 100000
theorem c_szJson_rec : ∀ N : Nat, (∀ (a : DJson) (l : Int) (K : List (List (List AC))) (h1 : 0 ≤ l) (h2 : l ≤ 1048576) (hN : SizeOf.sizeOf a < N), ∃ r, Ct Tryd.prog 5 [.agg (encL .no (tJson a)), .int .i64 l] K (.int .i64 r) K ∧ SZ l (szL (tJson a)) r) ∧ (∀ (xs : List DJson) (l : Int) (K : List (List (List AC))) (h1 : 0 ≤ l) (h2 : l ≤ 1048576) (hN : SizeOf.sizeOf xs < N), ∃ r, Ct Tryd.prog 14 [.sl .no xs.length (encR .no (tJsonS xs)), .int .i64 l] K (.int .i64 r) K ∧ SZ l (xs.length + szR (tJsonS xs)) r) := by
  intro N
  induction N with
  | zero => exact ⟨fun a => by intros; omega, fun xs => by intros; omega⟩
  | succ N ih =>
  refine ⟨?_, ?_⟩
  · intro a l K h1 h2 hN
    obtain ⟨x0, x1, x2, x3⟩ := a
    have es : szL (tJson ⟨x0, x1, x2, x3⟩) = x1.length + (x2.length + szR (tJsonS x2)) + (x3.length + szR (tStrS x3)) := by simp [tJson, encL_app, encL, encT, szL, szT]; try omega
    refine ⟨_, ?_, subz_SZ _ _⟩
    rw [es]
    refine ct_fn { n0 := 5, ex := [], tk := [] } Tryd.func5 rfl (by kernel_rfl) (by kernel_rfl) rfl ?_
    simp -implicitDefEqProofs [Tryd.f5, tJson, encL_app, encL, encT, szL, szT]
    intro hn1
    unfold maxLen at hn1
    simp (disch := omega) only [wrap64]
    refine ⟨fun h => by unfold subz; rw [if_pos (by omega)], fun h1 => ?_⟩
    obtain ⟨r2, hc, hr2⟩ := ih.2 x2 (l - x1.length) _ (by omega) (by omega) (by simp at hN; omega)
    refine callK_of hc ?_
    simp -implicitDefEqProofs
    unfold SZ at hr2
    refine ⟨fun h => by unfold subz; rw [if_pos (by omega)], fun h2 => ?_⟩
    obtain ⟨r3, hc, hr3⟩ := c_szStringS x3 r2 _ (by omega) (by omega)
    refine callK_of hc ?_
    simp -implicitDefEqProofs
    unfold SZ at hr3
    refine ⟨fun h => by unfold subz; rw [if_pos (by omega)], fun h3 => ?_⟩
    unfold subz; rw [if_neg (by omega)]; try omega
  · intro xs l K h1 h2 hN
    refine ⟨_, ?_, subz_SZ _ _⟩
    refine ct_fn { n0 := 6, ex := [], tk := [] } Tryd.func14 rfl (by kernel_rfl) (by kernel_rfl) rfl ?_
    simp -implicitDefEqProofs [Tryd.f14]
    intro hn
    unfold maxLen at hn
    simp (disch := omega) only [wrap64]
    refine ⟨fun h => by unfold subz; rw [if_pos (by omega)], fun h => ?_⟩
    refine wC_loop (fun m s => ∃ i, i ≤ xs.length ∧ m = xs.length - i ∧ ((szR ((tJsonS xs).take i) : Nat) : Int) ≤ l - xs.length ∧
      s = { env := [(0, .sl .no xs.length (encR .no (tJsonS xs))), (1, .int .i64 (l - xs.length - szR ((tJsonS xs).take i))), (4, .int .i64 0), (5, .int .i64 i)], loc := [], K := [] :: K }) xs.length _
      (St.le_of (by simp) (by simp [szR]) rfl rfl) ⟨0, by omega, rfl, by simp [szR]; omega, by simp [szR]⟩ ?_
    rintro m _ ⟨i, hi, rfl, hz, rfl⟩
    rcases Nat.lt_or_ge i xs.length with hlt | hge
    · obtain ⟨x, hx⟩ : ∃ x, xs[i]? = some x := ⟨_, List.getElem?_eq_getElem hlt⟩
      have ea := atJson (m := .no) hx
      have es := szR_get (tJsonS_get hx)
      have el := szR_take_le (rs := tJsonS xs) (i + 1)
      obtain ⟨r, hc, hr⟩ := ih.1 x (l - xs.length - szR ((tJsonS xs).take i)) ([] :: K) (by omega) (by omega) (by have := List.sizeOf_lt_of_mem (List.mem_of_getElem? hx); omega)
      unfold SZ at hr
      have hek := encL_len (m := .no) (r := tJson x)
      rw [tJson_len] at hek
      have htk : (encL .no (tJson x)).take 4 = encL .no (tJson x) := List.take_of_length_le (by omega)
      simp -implicitDefEqProofs [hlt, ea, hek, htk, encJsonS_len]
      intro _
      refine callK_of hc ?_
      simp -implicitDefEqProofs
      unfold maxLen at *
      refine ⟨fun h3 => by unfold subz; rw [if_pos (by omega)], fun h3 => ?_⟩
      simp (disch := omega) only [wrap64]
      refine ⟨xs.length - (i + 1), by omega, _, St.le_of (by simp) ?_ rfl (by simp [St.trunc]), i + 1, by omega, rfl, by omega, rfl⟩
      have e3 : r = l - xs.length - (szR ((tJsonS xs).take (i + 1)) : Nat) := by omega
      simp [St.trunc, look, mapV, mapC, e3]
    · have e : i = xs.length := by omega
      subst e
      simp -implicitDefEqProofs
      intro _
      have et : (tJsonS xs).take xs.length = tJsonS xs := List.take_of_length_le (by simp)
      rw [et] at hz ⊢
      unfold subz; rw [if_neg (by omega)]; try omega
theorem c_szJson (a : DJson) (l : Int) (K) (h1 : 0 ≤ l) (h2 : l ≤ 1048576) : ∃ r, Ct Tryd.prog 5 [.agg (encL .no (tJson a)), .int .i64 l] K (.int .i64 r) K ∧ SZ l (szL (tJson a)) r := (c_szJson_rec _).1 a l K h1 h2 (Nat.lt_succ_self _)
theorem c_szJsonS (xs : List DJson) (l : Int) (K) (h1 : 0 ≤ l) (h2 : l ≤ 1048576) : ∃ r, Ct Tryd.prog 14 [.sl .no xs.length (encR .no (tJsonS xs)), .int .i64 l] K (.int .i64 r) K ∧ SZ l (xs.length + szR (tJsonS xs)) r := (c_szJson_rec _).2 xs l K h1 h2 (Nat.lt_succ_self _)
theorem c_toJson_rec : ∀ N : Nat, (∀ (a : DJson) (K : List (List (List AC))) (hs : szL (tJson a) ≤ 1048576) (hN : SizeOf.sizeOf a < N), Ct Tryd.prog 7 [.agg (encL .no (tJson a))] K (.agg (encL .ex (tJson a))) K) ∧ (∀ (xs : List DJson) (K : List (List (List AC))) (hs : xs.length + szR (tJsonS xs) ≤ 1048576) (hN : SizeOf.sizeOf xs < N), Ct Tryd.prog 18 [.sl .no xs.length (encR .no (tJsonS xs))] K (.sl (.ex 30) xs.length (encR .ex (tJsonS xs))) K) := by
  intro N
  induction N with
  | zero => exact ⟨fun a => by intros; omega, fun xs => by intros; omega⟩
  | succ N ih =>
  refine ⟨?_, ?_⟩
  · intro a K hs hN
    obtain ⟨x0, x1, x2, x3⟩ := a
    have es : szL (tJson ⟨x0, x1, x2, x3⟩) = x1.length + (x2.length + szR (tJsonS x2)) + (x3.length + szR (tStrS x3)) := by simp [tJson, encL_app, encL, encT, szL, szT]; try omega
    rw [es] at hs
    refine ct_fn { n0 := 4, ex := [], tk := [12, 16, 18] } Tryd.func7 rfl (by kernel_rfl) (by kernel_rfl) rfl ?_
    simp -implicitDefEqProofs [Tryd.f7, tJson, encL_app, encL, encT, szL, szT]
    refine callK_of (ih.2 x2 _ (by omega) (by simp at hN; omega)) ?_
    simp -implicitDefEqProofs
    refine callK_of (c_toStringS x3 _ (by omega)) ?_
    simp -implicitDefEqProofs
  · intro xs K hs hN
    refine ct_fn { n0 := 5, ex := [], tk := [7, 20, 22], kp := [7], es := true } Tryd.func18 rfl (by kernel_rfl) (by kernel_rfl) rfl ?_
    simp -implicitDefEqProofs [Tryd.f18]
    intro h1
    unfold maxLen at h1
    refine ⟨by unfold maxLen; omega, fun y => ?_⟩
    have e0 : (List.replicate xs.length ([.int .i64 0, .str [], .sl .nil 0 [], .sl .nil 0 []] : List AC)).flatten = filled .ex [.int .i64 0, .str [], .sl .nil 0 [], .sl .nil 0 []] (tJsonS xs) 0 := by rw [filled_zero]; simp
    rw [e0]
    refine wC_for (fun i => { env := [(0, .sl .no xs.length (encR .no (tJsonS xs))), (2, .sl .nil 0 []), (3, .nam y (.sl (.ex 30) xs.length (filled .ex [.int .i64 0, .str [], .sl .nil 0 [], .sl .nil 0 []] (tJsonS xs) i))), (4, .int .i64 i)], loc := [], K := [] :: K }) xs.length (St.le_of (by simp) (by simp) rfl rfl) ?_
    intro i hi
    have efl := filled_len (m := .ex) (z := [.int .i64 0, .str [], .sl .nil 0 [], .sl .nil 0 []]) (i := i) (tJsonS_rows (xs := xs)) rfl (by simpa using hi)
    rcases Nat.lt_or_ge i xs.length with hlt | hge
    · obtain ⟨x, hx⟩ : ∃ x, xs[i]? = some x := ⟨_, List.getElem?_eq_getElem hlt⟩
      have ea := atJson (m := .no) hx
      have ef := filled_next (m := .ex) (z := [.int .i64 0, .str [], .sl .nil 0 [], .sl .nil 0 []]) tJsonS_rows rfl (tJsonS_get hx)
      have es := szR_get (tJsonS_get hx)
      have el := szR_take_le (rs := tJsonS xs) (i + 1)
      have hc := fun K => ih.1 x K (by omega) (by have := List.sizeOf_lt_of_mem (List.mem_of_getElem? hx); omega)
      have hek := encL_len (m := .no) (r := tJson x)
      have hek2 := encL_len (m := .ex) (r := tJson x)
      have hfl := flat_enc (m := .ex) (r := tJson x)
      rw [tJson_len] at hek hek2
      unfold putCells at ef
      rw [hek2] at ef
      have htk : (encL .no (tJson x)).take 4 = encL .no (tJson x) := List.take_of_length_le (by omega)
      simp -implicitDefEqProofs [hlt, ea, hek, htk, encJsonS_len]
      intro _
      refine callK_of (hc _) ?_
      have hfl2 : (encL .ex (tJson x)).all flat = true := List.all_eq_true.2 hfl
      rw [tJsonS_len] at efl
      simp -implicitDefEqProofs [hek2, efl, ef, hfl2, hlt]
      refine ⟨by omega, ?_⟩
      unfold maxLen at *
      simp (disch := omega) only [wrap64]
      exact for_next hlt (St.le_of (by simp) (by simp [St.trunc, look, mapV, mapC]) rfl (by simp [St.trunc]))
    · have e : i = xs.length := by omega
      subst e
      have eq : filled .ex [.int .i64 0, .str [], .sl .nil 0 [], .sl .nil 0 []] (tJsonS xs) xs.length = encR .ex (tJsonS xs) := by rw [← filled_all (z := ([.int .i64 0, .str [], .sl .nil 0 [], .sl .nil 0 []] : List AC))]; simp
      simp -implicitDefEqProofs [eq]
theorem c_toJson (a : DJson) (K) (hs : szL (tJson a) ≤ 1048576) : Ct Tryd.prog 7 [.agg (encL .no (tJson a))] K (.agg (encL .ex (tJson a))) K := (c_toJson_rec _).1 a K hs (Nat.lt_succ_self _)
theorem c_toJsonS (xs : List DJson) (K) (hs : xs.length + szR (tJsonS xs) ≤ 1048576) : Ct Tryd.prog 18 [.sl .no xs.length (encR .no (tJsonS xs))] K (.sl (.ex 30) xs.length (encR .ex (tJsonS xs))) K := (c_toJson_rec _).2 xs K hs (Nat.lt_succ_self _)
theorem c_eqJson_rec : ∀ N : Nat, (∀ (a b : DJson) (K : List (List (List AC))) (hN : SizeOf.sizeOf a < N), Ct Tryd.prog 9 [.agg (encL .no (tJson a)), .agg (encL .no (tJson b))] K (.bool (eqB a b)) K) ∧ (∀ (xs ys : List DJson) (K : List (List (List AC))) (hN : SizeOf.sizeOf xs < N), Ct Tryd.prog 22 [.sl .no xs.length (encR .no (tJsonS xs)), .sl .no ys.length (encR .no (tJsonS ys))] K (.bool (eqB xs ys)) K) := by
  intro N
  induction N with
  | zero => exact ⟨fun a => by intros; omega, fun xs => by intros; omega⟩
  | succ N ih =>
  refine ⟨?_, ?_⟩
  · intro a b K hN
    obtain ⟨x0, x1, x2, x3⟩ := a
    obtain ⟨y0, y1, y2, y3⟩ := b
    refine ct_fn { n0 := 5, ex := [], tk := [] } Tryd.func9 rfl (by kernel_rfl) (by kernel_rfl) rfl ?_
    simp -implicitDefEqProofs [Tryd.f9, tJson, encL_app, encL, encT, szL, szT]
    refine ⟨fun h => eqB_ne fun e => h (by cases e; rfl), fun h0 => ?_⟩
    refine ⟨fun h => eqB_ne fun e => h (by cases e; rfl), fun h1 => ?_⟩
    refine callK_of (ih.2 x2 y2 _ (by simp at hN; omega)) ?_
    simp -implicitDefEqProofs
    refine ⟨fun h => eqB_ne fun e => (by cases e; rw [eqB_self] at h; cases h), fun h2 => ?_⟩
    rw [eqB_iff] at h2
    refine callK_of (c_eqStringS x3 y3 _) ?_
    simp -implicitDefEqProofs
    refine ⟨fun h => eqB_ne fun e => (by cases e; rw [eqB_self] at h; cases h), fun h3 => ?_⟩
    rw [eqB_iff] at h3
    rw [eqB_iff]
    try cases h0
    try cases h1
    try cases h2
    try cases h3
    rfl
  · intro xs ys K hN
    refine ct_fn { n0 := 6, ex := [], tk := [] } Tryd.func22 rfl (by kernel_rfl) (by kernel_rfl) rfl ?_
    simp -implicitDefEqProofs [Tryd.f22]
    intro h1 h2
    refine ⟨fun h => eqB_ne fun e => h (by rw [e]), fun hlen => ?_⟩
    refine wC_loop (fun m s => ∃ i, i ≤ xs.length ∧ m = xs.length - i ∧ xs.take i = ys.take i ∧
      s = { env := [(0, .sl .no xs.length (encR .no (tJsonS xs))), (1, .sl .no ys.length (encR .no (tJsonS ys))), (4, .bool false), (5, .int .i64 i)], loc := [], K := [] :: K }) xs.length _
      (St.le_of (by simp) (by simp) rfl rfl) ⟨0, by omega, rfl, by simp, rfl⟩ ?_
    rintro m _ ⟨i, hi, rfl, hz, rfl⟩
    rcases Nat.lt_or_ge i xs.length with hlt | hge
    · obtain ⟨x, hx⟩ : ∃ x, xs[i]? = some x := ⟨_, List.getElem?_eq_getElem hlt⟩
      obtain ⟨z, hz2⟩ : ∃ x, ys[i]? = some x := ⟨_, List.getElem?_eq_getElem (by omega)⟩
      have ea := atJson (m := .no) hx
      have eb := atJson (m := .no) hz2
      have hek := encL_len (m := .no) (r := tJson x)
      have hek2 := encL_len (m := .no) (r := tJson z)
      rw [tJson_len] at hek hek2
      have hc := fun K => ih.1 x z K (by have := List.sizeOf_lt_of_mem (List.mem_of_getElem? hx); omega)
      have htk : (encL .no (tJson x)).take 4 = encL .no (tJson x) := List.take_of_length_le (by omega)
      have htk2 : (encL .no (tJson z)).take 4 = encL .no (tJson z) := List.take_of_length_le (by omega)
      simp -implicitDefEqProofs [hlt, ea, eb, hek, hek2, htk, htk2, encJsonS_len]
      intro _
      refine wRun_draw true rfl (by decide +kernel) ?_
      simp -implicitDefEqProofs [hlt, ea, eb, hek, hek2, htk, htk2, encJsonS_len]
      refine ⟨by omega, ?_⟩
      refine callK_of (hc _) ?_
      simp -implicitDefEqProofs
      refine ⟨fun h3 => eqB_ne fun e => (by rw [e, hz2] at hx; cases hx; rw [eqB_self] at h3; cases h3), fun h3 => ?_⟩
      rw [eqB_iff] at h3
      subst h3
      unfold maxLen at *
      simp (disch := omega) only [wrap64]
      refine ⟨xs.length - (i + 1), by omega, _, St.le_of (by simp) ?_ rfl (by simp [St.trunc]), i + 1, by omega, rfl, ?_, rfl⟩
      · simp [St.trunc, look, mapV, mapC]
      · rw [List.take_add_one, List.take_add_one, hz, hx, hz2]
    · have e : i = xs.length := by omega
      subst e
      simp -implicitDefEqProofs
      intro _
      refine (eqB_iff.2 ?_)
      rw [List.take_of_length_le (by omega), List.take_of_length_le (by omega)] at hz
      exact hz
theorem c_eqJson (a b : DJson) (K) : Ct Tryd.prog 9 [.agg (encL .no (tJson a)), .agg (encL .no (tJson b))] K (.bool (eqB a b)) K := (c_eqJson_rec _).1 a b K (Nat.lt_succ_self _)
theorem c_eqJsonS (xs ys : List DJson) (K) : Ct Tryd.prog 22 [.sl .no xs.length (encR .no (tJsonS xs)), .sl .no ys.length (encR .no (tJsonS ys))] K (.bool (eqB xs ys)) K := (c_eqJson_rec _).2 xs ys K (Nat.lt_succ_self _)
end Go.Proofs.YtkpdlbidadcdjaaDoor.Abs
