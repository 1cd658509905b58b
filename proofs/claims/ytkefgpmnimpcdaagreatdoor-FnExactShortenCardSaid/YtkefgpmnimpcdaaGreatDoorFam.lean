/- PRINTED by fam.py: what the laws do with data. No condition. -/
import Derived.Test.YtkefgpmnimpcdaaGreatDoorFStr
set_option linter.unusedVariables false
set_option linter.unusedSimpArgs false
namespace Go.Proofs.YtkefgpmnimpcdaaGreatDoor.Abs
open Go
set_option maxHeartbeats 2000000
set_option maxRecDepth 100000
theorem c_eqToken (a b : DToken) (K) : Ct Tryz.prog 55 [.agg (encL .no (tToken a)), .agg (encL .no (tToken b))] K (.bool (eqB a b)) K := by
  obtain ⟨x0, x1, x2⟩ := a
  obtain ⟨y0, y1, y2⟩ := b
  refine ct_fn { n0 := 5, ex := [], tk := [] } Tryz.func55 rfl (by kernel_rfl) (by kernel_rfl) rfl ?_
  simp -implicitDefEqProofs [Tryz.f55, tToken, encL_app, encL, encT, szL, szT]
  refine ⟨fun h => eqB_ne fun e => h (by cases e; rfl), fun h0 => ?_⟩
  refine ⟨fun h => eqB_ne fun e => h (by cases e; rfl), fun h1 => ?_⟩
  refine ⟨fun h => eqB_ne fun e => h (by cases e; rfl), fun h2 => ?_⟩
  rw [eqB_iff]
  try cases h0
  try cases h1
  try cases h2
  rfl
theorem c_eqTokenS (xs ys : List DToken) (K) : Ct Tryz.prog 12 [.sl .no xs.length (encR .no (tTokenS xs)), .sl .no ys.length (encR .no (tTokenS ys))] K (.bool (eqB xs ys)) K := by
  refine ct_fn { n0 := 6, ex := [], tk := [] } Tryz.func12 rfl (by kernel_rfl) (by kernel_rfl) rfl ?_
  simp -implicitDefEqProofs [Tryz.f12]
  intro h1 h2
  refine ⟨fun h => eqB_ne fun e => h (by rw [e]), fun hlen => ?_⟩
  refine wC_loop (fun m s => ∃ i, i ≤ xs.length ∧ m = xs.length - i ∧ xs.take i = ys.take i ∧
    s = { env := [(0, .sl .no xs.length (encR .no (tTokenS xs))), (1, .sl .no ys.length (encR .no (tTokenS ys))), (4, .bool false), (5, .int .i64 i)], loc := [], K := [] :: K }) xs.length _
    (St.le_of (by simp) (by simp) rfl rfl) ⟨0, by omega, rfl, by simp, rfl⟩ ?_
  rintro m _ ⟨i, hi, rfl, hz, rfl⟩
  rcases Nat.lt_or_ge i xs.length with hlt | hge
  · obtain ⟨x, hx⟩ : ∃ x, xs[i]? = some x := ⟨_, List.getElem?_eq_getElem hlt⟩
    obtain ⟨z, hz2⟩ : ∃ x, ys[i]? = some x := ⟨_, List.getElem?_eq_getElem (by omega)⟩
    have ea := atToken (m := .no) hx
    have eb := atToken (m := .no) hz2
    have hek := encL_len (m := .no) (r := tToken x)
    have hek2 := encL_len (m := .no) (r := tToken z)
    rw [tToken_len] at hek hek2
    have hc := fun K => c_eqToken x z K
    have htk : (encL .no (tToken x)).take 3 = encL .no (tToken x) := List.take_of_length_le (by omega)
    have htk2 : (encL .no (tToken z)).take 3 = encL .no (tToken z) := List.take_of_length_le (by omega)
    simp -implicitDefEqProofs [hlt, ea, eb, hek, hek2, htk, htk2, encTokenS_len]
    intro _
    refine wRun_draw true rfl (by decide +kernel) ?_
    simp -implicitDefEqProofs [hlt, ea, eb, hek, hek2, htk, htk2, encTokenS_len]
    refine ⟨by omega, ?_⟩
    refine callK_of (hc _) ?_
    simp -implicitDefEqProofs
    refine ⟨fun h3 => eqB_ne fun e => (by rw [e, hz2] at hx; cases hx; rw [eqB_self] at h3; cases h3), fun h3 => ?_⟩
    rw [eqB_iff] at h3
    subst h3
    unfold maxLen at *
    simp (disch := omega) only [wrap64]
    refine ⟨xs.length - (i + 1), by omega, _, St.le_of (by simp) ?_ rfl (by simp [St.trunc]), i + 1, by omega, rfl, ?_, rfl⟩
    · simp [St.trunc, look, mapV, mapC]
    · rw [List.take_add_one, List.take_add_one, hz, hx, hz2]
  · have e : i = xs.length := by omega
    subst e
    simp -implicitDefEqProofs
    intro _
    refine (eqB_iff.2 ?_)
    rw [List.take_of_length_le (by omega), List.take_of_length_le (by omega)] at hz
    exact hz
theorem c_szType (a : DType) (l : Int) (K) (h1 : 0 ≤ l) (h2 : l ≤ 1048576) : ∃ r, Ct Tryz.prog 25 [.agg (encL .no (tType a)), .int .i64 l] K (.int .i64 r) K ∧ SZ l (szL (tType a)) r := by
  obtain ⟨x0, x1⟩ := a
  have es : szL (tType ⟨x0, x1⟩) = x0.length + x1.length := by simp [tType, encL_app, encL, encT, szL, szT]; try omega
  refine ⟨_, ?_, subz_SZ _ _⟩
  rw [es]
  refine ct_fn { n0 := 5, ex := [], tk := [] } Tryz.func25 rfl (by kernel_rfl) (by kernel_rfl) rfl ?_
  simp -implicitDefEqProofs [Tryz.f25, tType, encL_app, encL, encT, szL, szT]
  intro hn0
  unfold maxLen at hn0
  simp (disch := omega) only [wrap64]
  refine ⟨fun h => by unfold subz; rw [if_pos (by omega)], fun h0 => ?_⟩
  intro hn1
  unfold maxLen at hn1
  simp (disch := omega) only [wrap64]
  refine ⟨fun h => by unfold subz; rw [if_pos (by omega)], fun h1 => ?_⟩
  unfold subz; rw [if_neg (by omega)]; try omega
theorem c_toType (a : DType) (K) (hs : szL (tType a) ≤ 1048576) : Ct Tryz.prog 28 [.agg (encL .no (tType a))] K (.agg (encL .ex (tType a))) K := by
  obtain ⟨x0, x1⟩ := a
  have es : szL (tType ⟨x0, x1⟩) = x0.length + x1.length := by simp [tType, encL_app, encL, encT, szL, szT]; try omega
  rw [es] at hs
  refine ct_fn { n0 := 4, ex := [], tk := [10] } Tryz.func28 rfl (by kernel_rfl) (by kernel_rfl) rfl ?_
  simp -implicitDefEqProofs [Tryz.f28, tType, encL_app, encL, encT, szL, szT]
theorem c_eqType (a b : DType) (K) : Ct Tryz.prog 18 [.agg (encL .no (tType a)), .agg (encL .no (tType b))] K (.bool (eqB a b)) K := by
  obtain ⟨x0, x1⟩ := a
  obtain ⟨y0, y1⟩ := b
  refine ct_fn { n0 := 5, ex := [], tk := [] } Tryz.func18 rfl (by kernel_rfl) (by kernel_rfl) rfl ?_
  simp -implicitDefEqProofs [Tryz.f18, tType, encL_app, encL, encT, szL, szT]
  refine ⟨fun h => eqB_ne fun e => h (by cases e; rfl), fun h0 => ?_⟩
  refine ⟨fun h => eqB_ne fun e => h (by cases e; rfl), fun h1 => ?_⟩
  rw [eqB_iff]
  try cases h0
  try cases h1
  rfl
theorem c_eqFault (a b : DFault) (K) : Ct Tryz.prog 13 [.agg (encL .no (tFault a)), .agg (encL .no (tFault b))] K (.bool (eqB a b)) K := by
  obtain ⟨x0, x1⟩ := a
  obtain ⟨y0, y1⟩ := b
  refine ct_fn { n0 := 5, ex := [], tk := [] } Tryz.func13 rfl (by kernel_rfl) (by kernel_rfl) rfl ?_
  simp -implicitDefEqProofs [Tryz.f13, tFault, encL_app, encL, encT, szL, szT]
  refine ⟨fun h => eqB_ne fun e => h (by cases e; rfl), fun h0 => ?_⟩
  refine ⟨fun h => eqB_ne fun e => h (by cases e; rfl), fun h1 => ?_⟩
  rw [eqB_iff]
  try cases h0
  try cases h1
  rfl
end Go.Proofs.YtkefgpmnimpcdaaGreatDoor.Abs
