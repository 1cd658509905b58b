/- PRINTED by lawgen.py: FnExactReasonOf: the law's contract. No condition. -/
import Derived.Test.YtcgkcbmhjbbjmaaReasonOf
import Derived.Test.YtcgkcbmhjbbjmaaInv
set_option linter.unusedVariables false
set_option linter.unusedSimpArgs false
namespace Go.Proofs.Ytcgkcbmhjbbjmaa.Abs
open Go
set_option maxHeartbeats 2000000
set_option maxRecDepth 100000
theorem c_law (a0 : List DDir) : Ct Try.prog 4 [.sl .no a0.length (encR .no (tDirS a0))] [] (.bool true) [] := by
  obtain ⟨r0, hr0, hz0⟩ : ∃ r, SZ 1048576 ((a0.length + szR (tDirS a0))) r ∧ (0 ≤ (0 : Int) → (0 : Int) ≤ 1048576 → ∀ K, Ct Try.prog 22 [.sl .no a0.length (encR .no (tDirS a0)), .int .i64 1048576] K (.int .i64 r) K) := ⟨_, subz_SZ _ _, fun h1 h2 K => by
    obtain ⟨r, h, hr⟩ := c_szDirS a0 1048576 K (by omega) (by omega)
    rw [SZ_eq hr] at h; exact h⟩
  refine ct_fn { n0 := 9, ex := [], tk := [11, 17, 21, 24, 38] } Try.func4 rfl (by kernel_rfl) (by kernel_rfl) rfl ?_
  simp -implicitDefEqProofs [Try.f4]
  refine callK_of (hz0 (by omega) (by omega) _) ?_
  simp -implicitDefEqProofs
  intro h0
  unfold SZ at hr0
  have hsa0 : (a0.length + szR (tDirS a0)) ≤ 1048576 := by omega
  have hta0 := fun K => (c_toDirS a0 K hsa0).ofSl
  refine callK_of (hta0 _) ?_
  simp -implicitDefEqProofs
  refine callK_of (c_ReasonOfS a0 _) ?_
  simp -implicitDefEqProofs
  refine callK_of (hta0 _) ?_
  simp -implicitDefEqProofs
  refine callK_of (c_ReasonOf a0 _) ?_
  simp -implicitDefEqProofs
  refine callK_of (hta0 _) ?_
  simp -implicitDefEqProofs
  refine callK_of (c_eqDirS a0 a0 _) ?_
  simp -implicitDefEqProofs [eqB_self]
end Go.Proofs.Ytcgkcbmhjbbjmaa.Abs
