/- PRINTED by lawmark2.py: FnExactUsesOf: the law's contract. No condition. -/
import Derived.Test.YthpbggfajpakkaaGreatUsesOf
import Derived.Test.YthpbggfajpakkaaGreatFam
import Derived.Test.YthpbggfajpakkaaGreatMarkA
import Derived.Test.YthpbggfajpakkaaGreatMarks
import Derived.Test.YthpbggfajpakkaaGreatInv
set_option linter.unusedVariables false
set_option linter.unusedSimpArgs false
namespace Go.Proofs.YthpbggfajpakkaaGreat.Abs
open Go
set_option maxHeartbeats 4000000
set_option maxRecDepth 100000
theorem flat_shL {m : Md} {r : List Tr} : (shareL (encL m r)).all flat = true := by
  rw [shareL_eq]
  induction r with
  | nil => rfl
  | cons t ts ih =>
    cases t with
    | sl e rows => cases m <;> simpa [encL, encT] using ih
    | _ => simpa [encL, encT] using ih
theorem isX_no {r : List Tr} : isX (.agg (encL .no r)) = false := by
  simp only [isX]
  induction r with
  | nil => rfl
  | cons t ts ih => cases t <;> simpa [encL, encT, cellX] using ih
theorem isX_of {r : List Tr} : isX (.agg (encL .of r)) = false := by
  simp only [isX]
  induction r with
  | nil => rfl
  | cons t ts ih => cases t <;> simpa [encL, encT, cellX] using ih
attribute [simp ↓] isX_no isX_of
theorem len_shL {cs : List AC} : (shareL cs).length = cs.length := by rw [shareL_eq, List.length_map]
theorem c_law (a0 : DSchema) (a1 : DValue) (a2 : DType) (a3 : Bool) : Ct Tryz.prog 3 [.agg (encL .no (tSchema a0)), .agg (encL .no (tValue a1)), .agg (encL .no (tType a2)), .bool a3] [] (.bool true) [] := by
  have hla0 : ∀ m, (encL m (tSchema a0)).length = 3 := fun m => by rw [encL_len, tSchema_len]
  have hka0 : ∀ m, (encL m (tSchema a0)).take 3 = encL m (tSchema a0) := fun m => List.take_of_length_le (by rw [hla0]; omega)
  have hla1 : ∀ m, (encL m (tValue a1)).length = 4 := fun m => by rw [encL_len, tValue_len]
  have hka1 : ∀ m, (encL m (tValue a1)).take 4 = encL m (tValue a1) := fun m => List.take_of_length_le (by rw [hla1]; omega)
  have hla2 : ∀ m, (encL m (tType a2)).length = 2 := fun m => by rw [encL_len, tType_len]
  have hka2 : ∀ m, (encL m (tType a2)).take 2 = encL m (tType a2) := fun m => List.take_of_length_le (by rw [hla2]; omega)
  obtain ⟨r0, hr0, hz0⟩ : ∃ r, SZ 1048576 (szL (tSchema a0)) r ∧ (0 ≤ (0 : Int) → (0 : Int) ≤ 1048576 → ∀ K, Ct Tryz.prog 9 [.agg (encL .no (tSchema a0)), .int .i64 1048576] K (.int .i64 r) K) := ⟨_, subz_SZ _ _, fun h1 h2 K => by
    obtain ⟨r, h, hr⟩ := c_szSchema a0 1048576 K (by omega) (by omega)
    rw [SZ_eq hr] at h; exact h⟩
  obtain ⟨r1, hr1, hz1⟩ : ∃ r, SZ r0 (szL (tValue a1)) r ∧ (0 ≤ r0 → r0 ≤ 1048576 → ∀ K, Ct Tryz.prog 10 [.agg (encL .no (tValue a1)), .int .i64 r0] K (.int .i64 r) K) := ⟨_, subz_SZ _ _, fun h1 h2 K => by
    obtain ⟨r, h, hr⟩ := c_szValue a1 r0 K (by omega) (by omega)
    rw [SZ_eq hr] at h; exact h⟩
  obtain ⟨r2, hr2, hz2⟩ : ∃ r, SZ r1 (szL (tType a2)) r ∧ (0 ≤ r1 → r1 ≤ 1048576 → ∀ K, Ct Tryz.prog 11 [.agg (encL .no (tType a2)), .int .i64 r1] K (.int .i64 r) K) := ⟨_, subz_SZ _ _, fun h1 h2 K => by
    obtain ⟨r, h, hr⟩ := c_szType a2 r1 K (by omega) (by omega)
    rw [SZ_eq hr] at h; exact h⟩
  refine ct_fn { n0 := 18, ex := [], tk := [42, 44, 50, 65, 68], es := true, xr := [14, 15, 17, 19, 24, 29, 35, 38], bw := [22] } Tryz.func3 rfl (by kernel_rfl) (by kernel_rfl) rfl ?_
  simp -implicitDefEqProofs [Tryz.f3, flat_shL, len_shL, hla0, hka0, hla1, hka1, hla2, hka2]
  refine callK_of (hz0 (by omega) (by omega) _) ?_
  simp -implicitDefEqProofs [flat_shL, len_shL, hla0, hka0, hla1, hka1, hla2, hka2]
  intro h0
  unfold SZ at hr0
  refine callK_of (hz1 (by omega) (by omega) _) ?_
  simp -implicitDefEqProofs [flat_shL, len_shL, hla0, hka0, hla1, hka1, hla2, hka2]
  intro h1
  unfold SZ at hr1
  refine callK_of (hz2 (by omega) (by omega) _) ?_
  simp -implicitDefEqProofs [flat_shL, len_shL, hla0, hka0, hla1, hka1, hla2, hka2]
  intro h2
  unfold SZ at hr2
  have hsa0 : szL (tSchema a0) ≤ 1048576 := by omega
  have hta0 := fun K => (c_toSchema a0 K hsa0).ofAgg
  have hxa0 := fun K => c_toSchema a0 K hsa0
  have hca0 := cnF_le (wd_Schema a0)
  have hc2a0 := tSchema_len a0
  have hsa1 : szL (tValue a1) ≤ 1048576 := by omega
  have hta1 := fun K => (c_toValue a1 K hsa1).ofAgg
  have hxa1 := fun K => c_toValue a1 K hsa1
  have hca1 := cnF_le (wd_Value a1)
  have hc2a1 := tValue_len a1
  have hsa2 : szL (tType a2) ≤ 1048576 := by omega
  have hta2 := fun K => (c_toType a2 K hsa2).ofAgg
  have hxa2 := fun K => c_toType a2 K hsa2
  have hi := fun K => c_UsesOf a0 a1 a2 a3 K (by omega)
  have hsp := fun K => c_UsesOfS a0 a1 a2 a3 K (by omega)
  have hbw := bnd_UsesOf a0 a1 a2 a3 (by omega)
  generalize hw : usesOf a0 a1 a2 a3 = w at *
  have hn1 : ¬ ((1 : Int) + (cnF (tSchema a0) : Nat) + (cnF (tValue a1) : Nat) < 0) := by omega
  have hn2 : ¬ ((1 : Int) + (cnR (tUseS w) : Nat) < 0) := by omega
  intros
  refine wRun_draw true rfl (by decide +kernel) ?_
  simp -implicitDefEqProofs [eqB_self, lend_encR, closed_ofR, toEx_ofR, hn1, hn2, flat_shL, len_shL, hla0, hka0, hla1, hka1, hla2, hka2]
  refine callK_of (hta0 _) ?_
  simp -implicitDefEqProofs [eqB_self, lend_encR, closed_ofR, toEx_ofR, hn1, hn2, flat_shL, len_shL, hla0, hka0, hla1, hka1, hla2, hka2]
  refine callK_of (hta1 _) ?_
  simp -implicitDefEqProofs [eqB_self, lend_encR, closed_ofR, toEx_ofR, hn1, hn2, flat_shL, len_shL, hla0, hka0, hla1, hka1, hla2, hka2]
  refine callK_of (hta2 _) ?_
  simp -implicitDefEqProofs [eqB_self, lend_encR, closed_ofR, toEx_ofR, hn1, hn2, flat_shL, len_shL, hla0, hka0, hla1, hka1, hla2, hka2]
  refine callK_of (hsp _) ?_
  simp -implicitDefEqProofs [eqB_self, lend_encR, closed_ofR, toEx_ofR, hn1, hn2, flat_shL, len_shL, hla0, hka0, hla1, hka1, hla2, hka2]
  intros
  refine callK_of (hxa0 _) ?_
  simp -implicitDefEqProofs [eqB_self, lend_encR, closed_ofR, toEx_ofR, hn1, hn2, flat_shL, len_shL, hla0, hka0, hla1, hka1, hla2, hka2]
  intros
  refine callK_of (hxa1 _) ?_
  simp -implicitDefEqProofs [eqB_self, lend_encR, closed_ofR, toEx_ofR, hn1, hn2, flat_shL, len_shL, hla0, hka0, hla1, hka1, hla2, hka2]
  intros
  refine wRun_draw true rfl (by decide +kernel) ?_
  simp -implicitDefEqProofs [eqB_self, lend_encR, closed_ofR, toEx_ofR, hn1, hn2, flat_shL, len_shL, hla0, hka0, hla1, hka1, hla2, hka2]
  refine callK_of (hta2 _) ?_
  simp -implicitDefEqProofs [eqB_self, lend_encR, closed_ofR, toEx_ofR, hn1, hn2, flat_shL, len_shL, hla0, hka0, hla1, hka1, hla2, hka2]
  refine callK_of (hi _) ?_
  simp -implicitDefEqProofs [eqB_self, lend_encR, closed_ofR, toEx_ofR, hn1, hn2, flat_shL, len_shL, hla0, hka0, hla1, hka1, hla2, hka2]
  intros
  refine callK_of (c_eqUseS w w _) ?_
  simp -implicitDefEqProofs [eqB_self, lend_encR, closed_ofR, toEx_ofR, hn1, hn2, flat_shL, len_shL, hla0, hka0, hla1, hka1, hla2, hka2]
  intros
  refine wRun_draw true rfl (by decide +kernel) ?_
  simp -implicitDefEqProofs [eqB_self, lend_encR, closed_ofR, toEx_ofR, hn1, hn2, flat_shL, len_shL, hla0, hka0, hla1, hka1, hla2, hka2]
  refine callK_of (hta0 _) ?_
  simp -implicitDefEqProofs [eqB_self, lend_encR, closed_ofR, toEx_ofR, hn1, hn2, flat_shL, len_shL, hla0, hka0, hla1, hka1, hla2, hka2]
  refine callK_of (c_eqSchema a0 a0 _) ?_
  simp -implicitDefEqProofs [eqB_self, lend_encR, closed_ofR, toEx_ofR, hn1, hn2, flat_shL, len_shL, hla0, hka0, hla1, hka1, hla2, hka2]
  intros
  refine wRun_draw true rfl (by decide +kernel) ?_
  simp -implicitDefEqProofs [eqB_self, lend_encR, closed_ofR, toEx_ofR, hn1, hn2, flat_shL, len_shL, hla0, hka0, hla1, hka1, hla2, hka2]
  refine callK_of (hta1 _) ?_
  simp -implicitDefEqProofs [eqB_self, lend_encR, closed_ofR, toEx_ofR, hn1, hn2, flat_shL, len_shL, hla0, hka0, hla1, hka1, hla2, hka2]
  refine callK_of (c_eqValue a1 a1 _) ?_
  simp -implicitDefEqProofs [eqB_self, lend_encR, closed_ofR, toEx_ofR, hn1, hn2, flat_shL, len_shL, hla0, hka0, hla1, hka1, hla2, hka2]
  intros
  refine callK_of (c_markSchema a0 _ _ ?_ ?_) ?_
  · omega
  · omega
  simp -implicitDefEqProofs [eqB_self, lend_encR, closed_ofR, toEx_ofR, hn1, hn2, flat_shL, len_shL, hla0, hka0, hla1, hka1, hla2, hka2]
  intros
  refine callK_of (c_markValue a1 _ _ ?_ ?_) ?_
  · omega
  · omega
  simp -implicitDefEqProofs [eqB_self, lend_encR, closed_ofR, toEx_ofR, hn1, hn2, flat_shL, len_shL, hla0, hka0, hla1, hka1, hla2, hka2]
  intros
  refine callK_still (fun _ => c_eqUseS w w _) ?_
  simp -implicitDefEqProofs [eqB_self, lend_encR, closed_ofR, toEx_ofR, hn1, hn2, flat_shL, len_shL, hla0, hka0, hla1, hka1, hla2, hka2]
  intros
  refine endB_of (c_markUseS w _ _ ?_ ?_) (by simp) ?_
  · omega
  · omega
  simp -implicitDefEqProofs [eqB_self, lend_encR, closed_ofR, toEx_ofR, hn1, hn2, flat_shL, len_shL, hla0, hka0, hla1, hka1, hla2, hka2]
  intros
  refine callK_of (c_heldUseS w _ _ ?_ ?_) ?_
  · omega
  · omega
  simp -implicitDefEqProofs [eqB_self, lend_encR, closed_ofR, toEx_ofR, hn1, hn2, flat_shL, len_shL, hla0, hka0, hla1, hka1, hla2, hka2]
  intros
  refine wRun_draw true rfl (by decide +kernel) ?_
  simp -implicitDefEqProofs [eqB_self, lend_encR, closed_ofR, toEx_ofR, hn1, hn2, flat_shL, len_shL, hla0, hka0, hla1, hka1, hla2, hka2]
  refine callK_of (hta0 _) ?_
  simp -implicitDefEqProofs [eqB_self, lend_encR, closed_ofR, toEx_ofR, hn1, hn2, flat_shL, len_shL, hla0, hka0, hla1, hka1, hla2, hka2]
  refine callK_of (hta1 _) ?_
  simp -implicitDefEqProofs [eqB_self, lend_encR, closed_ofR, toEx_ofR, hn1, hn2, flat_shL, len_shL, hla0, hka0, hla1, hka1, hla2, hka2]
  refine callK_of (hta2 _) ?_
  simp -implicitDefEqProofs [eqB_self, lend_encR, closed_ofR, toEx_ofR, hn1, hn2, flat_shL, len_shL, hla0, hka0, hla1, hka1, hla2, hka2]
  refine callK_of (hi _) ?_
  simp -implicitDefEqProofs [eqB_self, lend_encR, closed_ofR, toEx_ofR, hn1, hn2, flat_shL, len_shL, hla0, hka0, hla1, hka1, hla2, hka2]
  intros
  refine callK_of (c_eqUseS w w _) ?_
  simp -implicitDefEqProofs [eqB_self, lend_encR, closed_ofR, toEx_ofR, hn1, hn2, flat_shL, len_shL, hla0, hka0, hla1, hka1, hla2, hka2]
  intros
  refine callK_of (c_heldUseS w _ _ ?_ ?_) ?_
  · omega
  · omega
  simp -implicitDefEqProofs [eqB_self, lend_encR, closed_ofR, toEx_ofR, hn1, hn2, flat_shL, len_shL, hla0, hka0, hla1, hka1, hla2, hka2]
end Go.Proofs.YthpbggfajpakkaaGreat.Abs
