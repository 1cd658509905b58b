/- PRINTED by lawgen.py: FnExactSameGiven: the law's contract. No condition. -/
import Derived.Test.YtcgkcbmhjbbjmaaSameGiven
import Derived.Test.YtcgkcbmhjbbjmaaInv
set_option linter.unusedVariables false
set_option linter.unusedSimpArgs false
namespace Go.Proofs.Ytcgkcbmhjbbjmaa.Abs
open Go
set_option maxHeartbeats 2000000
set_option maxRecDepth 100000
theorem c_law (a0 : List DArg) (a1 : List DArg) : Ct Try.prog 5 [.sl .no a0.length (encR .no (tArgS a0)), .sl .no a1.length (encR .no (tArgS a1))] [] (.bool true) [] := by
  obtain ⟨r0, hr0, hz0⟩ : ∃ r, SZ 1048576 ((a0.length + szR (tArgS a0))) r ∧ (0 ≤ (0 : Int) → (0 : Int) ≤ 1048576 → ∀ K, Ct Try.prog 27 [.sl .no a0.length (encR .no (tArgS a0)), .int .i64 1048576] K (.int .i64 r) K) := ⟨_, subz_SZ _ _, fun h1 h2 K => by
    obtain ⟨r, h, hr⟩ := c_szArgS a0 1048576 K (by omega) (by omega)
    rw [SZ_eq hr] at h; exact h⟩
  obtain ⟨r1, hr1, hz1⟩ : ∃ r, SZ r0 ((a1.length + szR (tArgS a1))) r ∧ (0 ≤ r0 → r0 ≤ 1048576 → ∀ K, Ct Try.prog 27 [.sl .no a1.length (encR .no (tArgS a1)), .int .i64 r0] K (.int .i64 r) K) := ⟨_, subz_SZ _ _, fun h1 h2 K => by
    obtain ⟨r, h, hr⟩ := c_szArgS a1 r0 K (by omega) (by omega)
    rw [SZ_eq hr] at h; exact h⟩
  refine ct_fn { n0 := 10, ex := [], tk := [12, 17, 24, 26, 28, 31, 38, 43] } Try.func5 rfl (by kernel_rfl) (by kernel_rfl) rfl ?_
  simp -implicitDefEqProofs [Try.f5]
  refine callK_of (hz0 (by omega) (by omega) _) ?_
  simp -implicitDefEqProofs
  intro h0
  unfold SZ at hr0
  refine callK_of (hz1 (by omega) (by omega) _) ?_
  simp -implicitDefEqProofs
  intro h1
  unfold SZ at hr1
  have hsa0 : (a0.length + szR (tArgS a0)) ≤ 1048576 := by omega
  have hsa1 : (a1.length + szR (tArgS a1)) ≤ 1048576 := by omega
  have hta0 := fun K => (c_toArgS a0 K hsa0).ofSl
  have hta1 := fun K => (c_toArgS a1 K hsa1).ofSl
  refine callK_of (hta0 _) ?_
  simp -implicitDefEqProofs
  refine callK_of (hta1 _) ?_
  simp -implicitDefEqProofs
  refine callK_of (c_SameGivenS a0 a1 _) ?_
  simp -implicitDefEqProofs
  refine callK_of (hta0 _) ?_
  simp -implicitDefEqProofs
  refine callK_of (hta1 _) ?_
  simp -implicitDefEqProofs
  refine callK_of (c_SameGiven a0 a1 _) ?_
  simp -implicitDefEqProofs
  refine callK_of (hta0 _) ?_
  simp -implicitDefEqProofs
  refine callK_of (c_eqArgS a0 a0 _) ?_
  simp -implicitDefEqProofs [eqB_self]
  refine callK_of (hta1 _) ?_
  simp -implicitDefEqProofs
  refine callK_of (c_eqArgS a1 a1 _) ?_
  simp -implicitDefEqProofs [eqB_self]
end Go.Proofs.Ytcgkcbmhjbbjmaa.Abs
