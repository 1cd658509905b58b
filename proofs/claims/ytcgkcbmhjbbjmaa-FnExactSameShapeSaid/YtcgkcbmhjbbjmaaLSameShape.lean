/- PRINTED by lawgen.py: FnExactSameShape: the law's contract. No condition. -/
import Derived.Test.YtcgkcbmhjbbjmaaKinds
import Derived.Test.YtcgkcbmhjbbjmaaInv
set_option linter.unusedVariables false
set_option linter.unusedSimpArgs false
namespace Go.Proofs.Ytcgkcbmhjbbjmaa.Abs
open Go
set_option maxHeartbeats 2000000
set_option maxRecDepth 100000
theorem c_law (a0 : DSchema) (a1 : DType) (a2 : DType) : Ct Try.prog 10 [.agg (encL .no (tSchema a0)), .agg (encL .no (tType a1)), .agg (encL .no (tType a2))] [] (.bool true) [] := by
  have heka0 : ∀ m, (encL m (tSchema a0)).length = 3 := fun m => by rw [encL_len, tSchema_len]
  have htka0 : ∀ m, (encL m (tSchema a0)).take 3 = encL m (tSchema a0) := fun m => List.take_of_length_le (by rw [heka0 m]; exact Nat.le_refl _)
  have heka1 : ∀ m, (encL m (tType a1)).length = 2 := fun m => by rw [encL_len, tType_len]
  have htka1 : ∀ m, (encL m (tType a1)).take 2 = encL m (tType a1) := fun m => List.take_of_length_le (by rw [heka1 m]; exact Nat.le_refl _)
  have heka2 : ∀ m, (encL m (tType a2)).length = 2 := fun m => by rw [encL_len, tType_len]
  have htka2 : ∀ m, (encL m (tType a2)).take 2 = encL m (tType a2) := fun m => List.take_of_length_le (by rw [heka2 m]; exact Nat.le_refl _)
  obtain ⟨r0, hr0, hz0⟩ : ∃ r, SZ 1048576 (szL (tSchema a0)) r ∧ (0 ≤ (0 : Int) → (0 : Int) ≤ 1048576 → ∀ K, Ct Try.prog 56 [.agg (encL .no (tSchema a0)), .int .i64 1048576] K (.int .i64 r) K) := ⟨_, subz_SZ _ _, fun h1 h2 K => by
    obtain ⟨r, h, hr⟩ := c_szSchema a0 1048576 K (by omega) (by omega)
    rw [SZ_eq hr] at h; exact h⟩
  obtain ⟨r1, hr1, hz1⟩ : ∃ r, SZ r0 (szL (tType a1)) r ∧ (0 ≤ r0 → r0 ≤ 1048576 → ∀ K, Ct Try.prog 57 [.agg (encL .no (tType a1)), .int .i64 r0] K (.int .i64 r) K) := ⟨_, subz_SZ _ _, fun h1 h2 K => by
    obtain ⟨r, h, hr⟩ := c_szType a1 r0 K (by omega) (by omega)
    rw [SZ_eq hr] at h; exact h⟩
  obtain ⟨r2, hr2, hz2⟩ : ∃ r, SZ r1 (szL (tType a2)) r ∧ (0 ≤ r1 → r1 ≤ 1048576 → ∀ K, Ct Try.prog 57 [.agg (encL .no (tType a2)), .int .i64 r1] K (.int .i64 r) K) := ⟨_, subz_SZ _ _, fun h1 h2 K => by
    obtain ⟨r, h, hr⟩ := c_szType a2 r1 K (by omega) (by omega)
    rw [SZ_eq hr] at h; exact h⟩
  refine ct_fn { n0 := 11, ex := [], tk := [13, 18, 23, 32, 34, 40, 47] } Try.func10 rfl (by kernel_rfl) (by kernel_rfl) rfl ?_
  simp -implicitDefEqProofs [Try.f10, heka0, htka0, heka1, htka1, heka2, htka2]
  refine callK_of (hz0 (by omega) (by omega) _) ?_
  simp -implicitDefEqProofs [heka0, htka0, heka1, htka1, heka2, htka2]
  intro h0
  unfold SZ at hr0
  refine callK_of (hz1 (by omega) (by omega) _) ?_
  simp -implicitDefEqProofs [heka0, htka0, heka1, htka1, heka2, htka2]
  intro h1
  unfold SZ at hr1
  refine callK_of (hz2 (by omega) (by omega) _) ?_
  simp -implicitDefEqProofs [heka0, htka0, heka1, htka1, heka2, htka2]
  intro h2
  unfold SZ at hr2
  have hsa0 : szL (tSchema a0) ≤ 1048576 := by omega
  have hsa1 : szL (tType a1) ≤ 1048576 := by omega
  have hsa2 : szL (tType a2) ≤ 1048576 := by omega
  have hta0 := fun K => (c_toSchema a0 K hsa0).ofAgg
  have hta1 := fun K => (c_toType a1 K hsa1).ofAgg
  have hta2 := fun K => (c_toType a2 K hsa2).ofAgg
  refine wRun_draw true rfl (by decide +kernel) ?_
  simp -implicitDefEqProofs [heka0, htka0, heka1, htka1, heka2, htka2]
  refine callK_of (hta0 _) ?_
  simp -implicitDefEqProofs [heka0, htka0, heka1, htka1, heka2, htka2]
  refine callK_of (hta1 _) ?_
  simp -implicitDefEqProofs [heka0, htka0, heka1, htka1, heka2, htka2]
  refine callK_of (hta2 _) ?_
  simp -implicitDefEqProofs [heka0, htka0, heka1, htka1, heka2, htka2]
  refine callK_of (c_SameShapeS a0 a1 a2 _) ?_
  simp -implicitDefEqProofs [heka0, htka0, heka1, htka1, heka2, htka2]
  refine callK_of (hta0 _) ?_
  simp -implicitDefEqProofs [heka0, htka0, heka1, htka1, heka2, htka2]
  refine wRun_draw true rfl (by decide +kernel) ?_
  simp -implicitDefEqProofs [heka0, htka0, heka1, htka1, heka2, htka2]
  refine callK_of (hta1 _) ?_
  simp -implicitDefEqProofs [heka0, htka0, heka1, htka1, heka2, htka2]
  refine callK_of (hta2 _) ?_
  simp -implicitDefEqProofs [heka0, htka0, heka1, htka1, heka2, htka2]
  refine callK_of (c_SameShape a0 a1 a2 _) ?_
  simp -implicitDefEqProofs [heka0, htka0, heka1, htka1, heka2, htka2]
  refine wRun_draw true rfl (by decide +kernel) ?_
  simp -implicitDefEqProofs [heka0, htka0, heka1, htka1, heka2, htka2]
  refine callK_of (hta0 _) ?_
  simp -implicitDefEqProofs [heka0, htka0, heka1, htka1, heka2, htka2]
  refine callK_of (c_eqSchema a0 a0 _) ?_
  simp -implicitDefEqProofs [heka0, htka0, heka1, htka1, heka2, htka2, eqB_self]
end Go.Proofs.Ytcgkcbmhjbbjmaa.Abs
