/- PRINTED by lawgen.py: FnExactJsonText: the law's contract. No condition. -/
import Derived.Test.YtkpdlbidadcdjaaDoorTxJW
import Derived.Test.YtkpdlbidadcdjaaDoorFam
import Derived.Test.YtkpdlbidadcdjaaDoorInv
set_option linter.unusedVariables false
set_option linter.unusedSimpArgs false
namespace Go.Proofs.YtkpdlbidadcdjaaDoor.Abs
open Go
set_option maxHeartbeats 2000000
set_option maxRecDepth 100000
theorem c_law (a0 : DJson) : Ct Tryd.prog 3 [.agg (encL .no (tJson a0))] [] (.bool true) [] := by
  have heka0 : ∀ m, (encL m (tJson a0)).length = 4 := fun m => by rw [encL_len, tJson_len]
  have htka0 : ∀ m, (encL m (tJson a0)).take 4 = encL m (tJson a0) := fun m => List.take_of_length_le (by rw [heka0 m]; exact Nat.le_refl _)
  obtain ⟨r0, hr0, hz0⟩ : ∃ r, SZ 1048576 (szL (tJson a0)) r ∧ (0 ≤ (0 : Int) → (0 : Int) ≤ 1048576 → ∀ K, Ct Tryd.prog 5 [.agg (encL .no (tJson a0)), .int .i64 1048576] K (.int .i64 r) K) := ⟨_, subz_SZ _ _, fun h1 h2 K => by
    obtain ⟨r, h, hr⟩ := c_szJson a0 1048576 K (by omega) (by omega)
    rw [SZ_eq hr] at h; exact h⟩
  refine ct_fn { n0 := 7, ex := [], tk := [9, 14, 16, 18, 25] } Tryd.func3 rfl (by kernel_rfl) (by kernel_rfl) rfl ?_
  simp -implicitDefEqProofs [Tryd.f3, heka0, htka0]
  refine callK_of (hz0 (by omega) (by omega) _) ?_
  simp -implicitDefEqProofs [heka0, htka0]
  intro h0
  unfold SZ at hr0
  have hsa0 : szL (tJson a0) ≤ 1048576 := by omega
  have hta0 := fun K => (c_toJson a0 K hsa0).ofAgg
  refine callK_of (hta0 _) ?_
  simp -implicitDefEqProofs [heka0, htka0]
  refine callK_of (c_JsonTextS a0 (by omega) _) ?_
  simp -implicitDefEqProofs [heka0, htka0]
  refine callK_of (hta0 _) ?_
  simp -implicitDefEqProofs [heka0, htka0]
  refine callK_of (c_JsonText a0 (by omega) _) ?_
  simp -implicitDefEqProofs [heka0, htka0]
  refine wRun_draw true rfl (by decide +kernel) ?_
  simp -implicitDefEqProofs [heka0, htka0]
  refine callK_of (hta0 _) ?_
  simp -implicitDefEqProofs [heka0, htka0]
  refine callK_of (c_eqJson a0 a0 _) ?_
  simp -implicitDefEqProofs [heka0, htka0, eqB_self]
end Go.Proofs.YtkpdlbidadcdjaaDoor.Abs
