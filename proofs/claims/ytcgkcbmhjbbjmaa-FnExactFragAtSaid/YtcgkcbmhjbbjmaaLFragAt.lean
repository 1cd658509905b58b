/- PRINTED by lawgen.py: FnExactFragAt: the law's contract. No condition. -/
import Derived.Test.YtcgkcbmhjbbjmaaFragAt
import Derived.Test.YtcgkcbmhjbbjmaaInv
set_option linter.unusedVariables false
set_option linter.unusedSimpArgs false
namespace Go.Proofs.Ytcgkcbmhjbbjmaa.Abs
open Go
set_option maxHeartbeats 2000000
set_option maxRecDepth 100000
theorem c_law (a0 : List DFrag) (a1 : Bs) : Ct Try.prog 7 [.sl .no a0.length (encR .no (tFragS a0)), .str a1] [] (.bool true) [] := by
  obtain ⟨r0, hr0, hz0⟩ : ∃ r, SZ 1048576 ((a0.length + szR (tFragS a0))) r ∧ (0 ≤ (0 : Int) → (0 : Int) ≤ 1048576 → ∀ K, Ct Try.prog 37 [.sl .no a0.length (encR .no (tFragS a0)), .int .i64 1048576] K (.int .i64 r) K) := ⟨_, subz_SZ _ _, fun h1 h2 K => by
    obtain ⟨r, h, hr⟩ := c_szFragS a0 1048576 K (by omega) (by omega)
    rw [SZ_eq hr] at h; exact h⟩
  refine ct_fn { n0 := 9, ex := [], tk := [14, 20, 22, 25, 32] } Try.func7 rfl (by kernel_rfl) (by kernel_rfl) rfl ?_
  simp -implicitDefEqProofs [Try.f7]
  intro hma1 hla1
  refine callK_of (hz0 (by omega) (by omega) _) ?_
  simp -implicitDefEqProofs
  intro h0
  unfold SZ at hr0
  have hsa0 : (a0.length + szR (tFragS a0)) ≤ 1048576 := by omega
  have hta0 := fun K => (c_toFragS a0 K hsa0).ofSl
  refine callK_of (hta0 _) ?_
  simp -implicitDefEqProofs
  refine callK_of (c_FragAtS a0 a1 _) ?_
  simp -implicitDefEqProofs
  refine callK_of (hta0 _) ?_
  simp -implicitDefEqProofs
  refine callK_of (c_FragAt a0 a1 _) ?_
  simp -implicitDefEqProofs
  refine callK_of (hta0 _) ?_
  simp -implicitDefEqProofs
  refine callK_of (c_eqFragS a0 a0 _) ?_
  simp -implicitDefEqProofs [eqB_self]
end Go.Proofs.Ytcgkcbmhjbbjmaa.Abs
