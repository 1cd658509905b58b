/- PRINTED by lawmark.py: FnExactSpreadsIn: the law's contract. No condition. -/
import Derived.Test.YthpbggfajpakkaaSpreadsIn
import Derived.Test.YthpbggfajpakkaaFam
import Derived.Test.YthpbggfajpakkaaMarks
import Derived.Test.YthpbggfajpakkaaInv
set_option linter.unusedVariables false
set_option linter.unusedSimpArgs false
namespace Go.Proofs.Ythpbggfajpakkaa.Abs
open Go
set_option maxHeartbeats 2000000
set_option maxRecDepth 100000
theorem c_law (a0 : List DSel) : Ct Try.prog 3 [.sl .no a0.length (encR .no (tSelS a0))] [] (.bool true) [] := by
  obtain ⟨r0, hr0, hz0⟩ : ∃ r, SZ 1048576 (a0.length + szR (tSelS a0)) r ∧ (0 ≤ (0 : Int) → (0 : Int) ≤ 1048576 → ∀ K, Ct Try.prog 5 [.sl .no a0.length (encR .no (tSelS a0)), .int .i64 1048576] K (.int .i64 r) K) := ⟨_, subz_SZ _ _, fun h1 h2 K => by
    obtain ⟨r, h, hr⟩ := c_szSelS a0 1048576 K (by omega) (by omega)
    rw [SZ_eq hr] at h; exact h⟩
  refine ct_fn { n0 := 11, ex := [], tk := [20, 22], es := true, xr := [7, 8, 10, 14, 19, 25, 28], bw := [11, 12] } Try.func3 rfl (by kernel_rfl) (by kernel_rfl) rfl ?_
  simp -implicitDefEqProofs [Try.f3]
  refine callK_of (hz0 (by omega) (by omega) _) ?_
  simp -implicitDefEqProofs
  intro h0
  unfold SZ at hr0
  have hsa0 : a0.length + szR (tSelS a0) ≤ 1048576 := by omega
  have hta0 := fun K => (c_toSelS a0 K hsa0).ofSl
  have hxa0 := fun K => c_toSelS a0 K hsa0
  have hca0 := cn_SelS a0
  have hi := fun K => c_SpreadsIn a0 K (by omega)
  have hsp := fun K => c_SpreadsInS a0 K (by omega)
  have hbw := bnd_SpreadsIn a0 (by omega)
  generalize hw : spreads a0 = w at *
  have hn1 : ¬ ((1 : Int) + (cnR (tSelS a0) : Nat) < 0) := by omega
  have hn2 : ¬ ((1 : Int) + (cnR (tStrS w) : Nat) < 0) := by omega
  intros
  refine callK_of (hta0 _) ?_
  simp -implicitDefEqProofs [eqB_self, lend_encR, closed_ofR, toEx_ofR, hn1, hn2]
  refine callK_of (hsp _) ?_
  simp -implicitDefEqProofs [eqB_self, lend_encR, closed_ofR, toEx_ofR, hn1, hn2]
  intros
  refine callK_of (hxa0 _) ?_
  simp -implicitDefEqProofs [eqB_self, lend_encR, closed_ofR, toEx_ofR, hn1, hn2]
  intros
  refine callK_of (hi _) ?_
  simp -implicitDefEqProofs [eqB_self, lend_encR, closed_ofR, toEx_ofR, hn1, hn2]
  intros
  refine callK_of (c_eqStringS w w _) ?_
  simp -implicitDefEqProofs [eqB_self, lend_encR, closed_ofR, toEx_ofR, hn1, hn2]
  intros
  refine callK_of (hta0 _) ?_
  simp -implicitDefEqProofs [eqB_self, lend_encR, closed_ofR, toEx_ofR, hn1, hn2]
  refine callK_of (c_eqSelS a0 a0 _) ?_
  simp -implicitDefEqProofs [eqB_self, lend_encR, closed_ofR, toEx_ofR, hn1, hn2]
  intros
  refine endB_of (c_markSelS a0 _ _ ?_ ?_) (by simp) ?_
  · omega
  · omega
  simp -implicitDefEqProofs [eqB_self, lend_encR, closed_ofR, toEx_ofR, hn1, hn2]
  intros
  refine callK_still (fun _ => c_eqStringS w w _) ?_
  simp -implicitDefEqProofs [eqB_self, lend_encR, closed_ofR, toEx_ofR, hn1, hn2]
  intros
  refine endB_of (c_markStringS w _ _ ?_ ?_) (by simp) ?_
  · omega
  · omega
  simp -implicitDefEqProofs [eqB_self, lend_encR, closed_ofR, toEx_ofR, hn1, hn2]
  intros
  refine callK_of (c_heldStringS w _ _ ?_ ?_) ?_
  · omega
  · omega
  simp -implicitDefEqProofs [eqB_self, lend_encR, closed_ofR, toEx_ofR, hn1, hn2]
  intros
  refine callK_of (hta0 _) ?_
  simp -implicitDefEqProofs [eqB_self, lend_encR, closed_ofR, toEx_ofR, hn1, hn2]
  refine callK_of (hi _) ?_
  simp -implicitDefEqProofs [eqB_self, lend_encR, closed_ofR, toEx_ofR, hn1, hn2]
  intros
  refine callK_of (c_eqStringS w w _) ?_
  simp -implicitDefEqProofs [eqB_self, lend_encR, closed_ofR, toEx_ofR, hn1, hn2]
  intros
  refine callK_of (c_heldStringS w _ _ ?_ ?_) ?_
  · omega
  · omega
  simp -implicitDefEqProofs [eqB_self, lend_encR, closed_ofR, toEx_ofR, hn1, hn2]
end Go.Proofs.Ythpbggfajpakkaa.Abs
