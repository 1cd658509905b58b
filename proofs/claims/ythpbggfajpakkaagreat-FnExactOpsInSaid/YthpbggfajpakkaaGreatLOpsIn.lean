/- PRINTED by lawmark2.py: FnExactOpsIn: the law's contract. No condition. -/
import Derived.Test.YthpbggfajpakkaaGreatDocsB
import Derived.Test.YthpbggfajpakkaaGreatFam
import Derived.Test.YthpbggfajpakkaaGreatMarkB
import Derived.Test.YthpbggfajpakkaaGreatMarks
import Derived.Test.YthpbggfajpakkaaGreatInv
set_option linter.unusedVariables false
set_option linter.unusedSimpArgs false
namespace Go.Proofs.YthpbggfajpakkaaGreat.Abs
open Go
set_option maxHeartbeats 4000000
set_option maxRecDepth 100000
theorem flat_shL {m : Md} {r : List Tr} : (shareL (encL m r)).all flat = true := by
  rw [shareL_eq]
  induction r with
  | nil => rfl
  | cons t ts ih =>
    cases t with
    | sl e rows => cases m <;> simpa [encL, encT] using ih
    | _ => simpa [encL, encT] using ih
theorem isX_no {r : List Tr} : isX (.agg (encL .no r)) = false := by
  simp only [isX]
  induction r with
  | nil => rfl
  | cons t ts ih => cases t <;> simpa [encL, encT, cellX] using ih
theorem isX_of {r : List Tr} : isX (.agg (encL .of r)) = false := by
  simp only [isX]
  induction r with
  | nil => rfl
  | cons t ts ih => cases t <;> simpa [encL, encT, cellX] using ih
attribute [simp ↓] isX_no isX_of
theorem len_shL {cs : List AC} : (shareL cs).length = cs.length := by rw [shareL_eq, List.length_map]
theorem c_law (a0 : DDoc) : Ct Tryz.prog 7 [.agg (encL .no (tDoc a0))] [] (.bool true) [] := by
  have hla0 : ∀ m, (encL m (tDoc a0)).length = 1 := fun m => by rw [encL_len, tDoc_len]
  have hka0 : ∀ m, (encL m (tDoc a0)).take 1 = encL m (tDoc a0) := fun m => List.take_of_length_le (by rw [hla0]; omega)
  obtain ⟨r0, hr0, hz0⟩ : ∃ r, SZ 1048576 (szL (tDoc a0)) r ∧ (0 ≤ (0 : Int) → (0 : Int) ≤ 1048576 → ∀ K, Ct Tryz.prog 36 [.agg (encL .no (tDoc a0)), .int .i64 1048576] K (.int .i64 r) K) := ⟨_, subz_SZ _ _, fun h1 h2 K => by
    obtain ⟨r, h, hr⟩ := c_szDoc a0 1048576 K (by omega) (by omega)
    rw [SZ_eq hr] at h; exact h⟩
  refine ct_fn { n0 := 11, ex := [], tk := [20, 22, 32], es := true, xr := [7, 8, 10, 14, 19, 25, 28], bw := [48] } Tryz.func7 rfl (by kernel_rfl) (by kernel_rfl) rfl ?_
  simp -implicitDefEqProofs [Tryz.f7, flat_shL, len_shL, hla0, hka0]
  refine callK_of (hz0 (by omega) (by omega) _) ?_
  simp -implicitDefEqProofs [flat_shL, len_shL, hla0, hka0]
  intro h0
  unfold SZ at hr0
  have hsa0 : szL (tDoc a0) ≤ 1048576 := by omega
  have hta0 := fun K => (c_toDoc a0 K hsa0).ofAgg
  have hxa0 := fun K => c_toDoc a0 K hsa0
  have hca0 := cnF_le (wd_Doc a0)
  have hc2a0 := tDoc_len a0
  have hi := fun K => c_OpsIn a0 K (by omega)
  have hsp := fun K => c_OpsInS a0 K (by omega)
  have hbw := bnd_OpsIn a0 (by omega)
  generalize hw : opsIn a0 = w at *
  have hn1 : ¬ ((1 : Int) + (cnF (tDoc a0) : Nat) < 0) := by omega
  have hn2 : ¬ ((1 : Int) + (cnR (tOpS w) : Nat) < 0) := by omega
  intros
  refine callK_of (hta0 _) ?_
  simp -implicitDefEqProofs [eqB_self, lend_encR, closed_ofR, toEx_ofR, hn1, hn2, flat_shL, len_shL, hla0, hka0]
  refine callK_of (hsp _) ?_
  simp -implicitDefEqProofs [eqB_self, lend_encR, closed_ofR, toEx_ofR, hn1, hn2, flat_shL, len_shL, hla0, hka0]
  intros
  refine callK_of (hxa0 _) ?_
  simp -implicitDefEqProofs [eqB_self, lend_encR, closed_ofR, toEx_ofR, hn1, hn2, flat_shL, len_shL, hla0, hka0]
  intros
  refine callK_of (hi _) ?_
  simp -implicitDefEqProofs [eqB_self, lend_encR, closed_ofR, toEx_ofR, hn1, hn2, flat_shL, len_shL, hla0, hka0]
  intros
  refine callK_of (c_eqOpS w w _) ?_
  simp -implicitDefEqProofs [eqB_self, lend_encR, closed_ofR, toEx_ofR, hn1, hn2, flat_shL, len_shL, hla0, hka0]
  intros
  refine wRun_draw true rfl (by decide +kernel) ?_
  simp -implicitDefEqProofs [eqB_self, lend_encR, closed_ofR, toEx_ofR, hn1, hn2, flat_shL, len_shL, hla0, hka0]
  refine callK_of (hta0 _) ?_
  simp -implicitDefEqProofs [eqB_self, lend_encR, closed_ofR, toEx_ofR, hn1, hn2, flat_shL, len_shL, hla0, hka0]
  refine callK_of (c_eqDoc a0 a0 _) ?_
  simp -implicitDefEqProofs [eqB_self, lend_encR, closed_ofR, toEx_ofR, hn1, hn2, flat_shL, len_shL, hla0, hka0]
  intros
  refine callK_of (c_markDoc a0 _ _ ?_ ?_) ?_
  · omega
  · omega
  simp -implicitDefEqProofs [eqB_self, lend_encR, closed_ofR, toEx_ofR, hn1, hn2, flat_shL, len_shL, hla0, hka0]
  intros
  refine callK_still (fun _ => c_eqOpS w w _) ?_
  simp -implicitDefEqProofs [eqB_self, lend_encR, closed_ofR, toEx_ofR, hn1, hn2, flat_shL, len_shL, hla0, hka0]
  intros
  refine endB_of (c_markOpS w _ _ ?_ ?_) (by simp) ?_
  · omega
  · omega
  simp -implicitDefEqProofs [eqB_self, lend_encR, closed_ofR, toEx_ofR, hn1, hn2, flat_shL, len_shL, hla0, hka0]
  intros
  refine callK_of (c_heldOpS w _ _ ?_ ?_) ?_
  · omega
  · omega
  simp -implicitDefEqProofs [eqB_self, lend_encR, closed_ofR, toEx_ofR, hn1, hn2, flat_shL, len_shL, hla0, hka0]
  intros
  refine callK_of (hta0 _) ?_
  simp -implicitDefEqProofs [eqB_self, lend_encR, closed_ofR, toEx_ofR, hn1, hn2, flat_shL, len_shL, hla0, hka0]
  refine callK_of (hi _) ?_
  simp -implicitDefEqProofs [eqB_self, lend_encR, closed_ofR, toEx_ofR, hn1, hn2, flat_shL, len_shL, hla0, hka0]
  intros
  refine callK_of (c_eqOpS w w _) ?_
  simp -implicitDefEqProofs [eqB_self, lend_encR, closed_ofR, toEx_ofR, hn1, hn2, flat_shL, len_shL, hla0, hka0]
  intros
  refine callK_of (c_heldOpS w _ _ ?_ ?_) ?_
  · omega
  · omega
  simp -implicitDefEqProofs [eqB_self, lend_encR, closed_ofR, toEx_ofR, hn1, hn2, flat_shL, len_shL, hla0, hka0]
end Go.Proofs.YthpbggfajpakkaaGreat.Abs
