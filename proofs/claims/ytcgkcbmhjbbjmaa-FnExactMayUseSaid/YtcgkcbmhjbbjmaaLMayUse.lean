/- PRINTED by lawgen.py: FnExactMayUse: the law's contract. No condition. -/
import Derived.Test.YtcgkcbmhjbbjmaaMayUse
import Derived.Test.YtcgkcbmhjbbjmaaInv
set_option linter.unusedVariables false
set_option linter.unusedSimpArgs false
namespace Go.Proofs.Ytcgkcbmhjbbjmaa.Abs
open Go
set_option maxHeartbeats 2000000
set_option maxRecDepth 100000
theorem c_law (a0 : DVarDef) (a1 : DUse) : Ct Try.prog 8 [.agg (encL .no (tVarDef a0)), .agg (encL .no (tUse a1))] [] (.bool true) [] := by
  have heka0 : ∀ m, (encL m (tVarDef a0)).length = 9 := fun m => by rw [encL_len, tVarDef_len]
  have htka0 : ∀ m, (encL m (tVarDef a0)).take 9 = encL m (tVarDef a0) := fun m => List.take_of_length_le (by rw [heka0 m]; exact Nat.le_refl _)
  have heka1 : ∀ m, (encL m (tUse a1)).length = 5 := fun m => by rw [encL_len, tUse_len]
  have htka1 : ∀ m, (encL m (tUse a1)).take 5 = encL m (tUse a1) := fun m => List.take_of_length_le (by rw [heka1 m]; exact Nat.le_refl _)
  obtain ⟨r0, hr0, hz0⟩ : ∃ r, SZ 1048576 (szL (tVarDef a0)) r ∧ (0 ≤ (0 : Int) → (0 : Int) ≤ 1048576 → ∀ K, Ct Try.prog 42 [.agg (encL .no (tVarDef a0)), .int .i64 1048576] K (.int .i64 r) K) := ⟨_, subz_SZ _ _, fun h1 h2 K => by
    obtain ⟨r, h, hr⟩ := c_szVarDef a0 1048576 K (by omega) (by omega)
    rw [SZ_eq hr] at h; exact h⟩
  obtain ⟨r1, hr1, hz1⟩ : ∃ r, SZ r0 (szL (tUse a1)) r ∧ (0 ≤ r0 → r0 ≤ 1048576 → ∀ K, Ct Try.prog 43 [.agg (encL .no (tUse a1)), .int .i64 r0] K (.int .i64 r) K) := ⟨_, subz_SZ _ _, fun h1 h2 K => by
    obtain ⟨r, h, hr⟩ := c_szUse a1 r0 K (by omega) (by omega)
    rw [SZ_eq hr] at h; exact h⟩
  refine ct_fn { n0 := 9, ex := [], tk := [11, 16, 23, 25, 29, 36] } Try.func8 rfl (by kernel_rfl) (by kernel_rfl) rfl ?_
  simp -implicitDefEqProofs [Try.f8, heka0, htka0, heka1, htka1]
  refine callK_of (hz0 (by omega) (by omega) _) ?_
  simp -implicitDefEqProofs [heka0, htka0, heka1, htka1]
  intro h0
  unfold SZ at hr0
  refine callK_of (hz1 (by omega) (by omega) _) ?_
  simp -implicitDefEqProofs [heka0, htka0, heka1, htka1]
  intro h1
  unfold SZ at hr1
  have hsa0 : szL (tVarDef a0) ≤ 1048576 := by omega
  have hsa1 : szL (tUse a1) ≤ 1048576 := by omega
  have hta0 := fun K => (c_toVarDef a0 K hsa0).ofAgg
  have hta1 := fun K => (c_toUse a1 K hsa1).ofAgg
  refine wRun_draw true rfl (by decide +kernel) ?_
  simp -implicitDefEqProofs [heka0, htka0, heka1, htka1]
  refine callK_of (hta0 _) ?_
  simp -implicitDefEqProofs [heka0, htka0, heka1, htka1]
  refine callK_of (hta1 _) ?_
  simp -implicitDefEqProofs [heka0, htka0, heka1, htka1]
  refine callK_of (c_MayUseS a0 a1 _) ?_
  simp -implicitDefEqProofs [heka0, htka0, heka1, htka1]
  refine callK_of (hta0 _) ?_
  simp -implicitDefEqProofs [heka0, htka0, heka1, htka1]
  refine wRun_draw true rfl (by decide +kernel) ?_
  simp -implicitDefEqProofs [heka0, htka0, heka1, htka1]
  refine callK_of (hta1 _) ?_
  simp -implicitDefEqProofs [heka0, htka0, heka1, htka1]
  refine callK_of (c_MayUse a0 a1 _) ?_
  simp -implicitDefEqProofs [heka0, htka0, heka1, htka1]
  refine wRun_draw true rfl (by decide +kernel) ?_
  simp -implicitDefEqProofs [heka0, htka0, heka1, htka1]
  refine callK_of (hta0 _) ?_
  simp -implicitDefEqProofs [heka0, htka0, heka1, htka1]
  refine callK_of (c_eqVarDef a0 a0 _) ?_
  simp -implicitDefEqProofs [heka0, htka0, heka1, htka1, eqB_self]
end Go.Proofs.Ytcgkcbmhjbbjmaa.Abs
