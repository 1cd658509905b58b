/- PRINTED by lawmark2.py: FnExactUsesIn: the law's contract. No condition. -/
import Derived.Test.YthagllbnkbahnaaGreatUsesIn
import Derived.Test.YthagllbnkbahnaaGreatMarkA
import Derived.Test.YthagllbnkbahnaaGreatMarks
import Derived.Test.YthagllbnkbahnaaGreatInv
set_option linter.unusedVariables false
set_option linter.unusedSimpArgs false
namespace Go.Proofs.YthagllbnkbahnaaGreat.Abs
open Go
set_option maxHeartbeats 4000000
set_option maxRecDepth 100000
theorem flat_shL {m : Md} {r : List Tr} : (shareL (encL m r)).all flat = true := by
  rw [shareL_eq]
  induction r with
  | nil => rfl
  | cons t ts ih =>
    cases t with
    | sl e rows => cases m <;> simpa [encL, encT] using ih
    | _ => simpa [encL, encT] using ih
theorem isX_no {r : List Tr} : isX (.agg (encL .no r)) = false := by
  simp only [isX]
  induction r with
  | nil => rfl
  | cons t ts ih => cases t <;> simpa [encL, encT, cellX] using ih
theorem isX_of {r : List Tr} : isX (.agg (encL .of r)) = false := by
  simp only [isX]
  induction r with
  | nil => rfl
  | cons t ts ih => cases t <;> simpa [encL, encT, cellX] using ih
attribute [simp ↓] isX_no isX_of
theorem len_shL {cs : List AC} : (shareL cs).length = cs.length := by rw [shareL_eq, List.length_map]
theorem c_law (a0 : DSchema) (a1 : Bs) (a2 : List DSel) : Ct Tryz.prog 3 [.agg (encL .no (tSchema a0)), .str a1, .sl .no a2.length (encR .no (tSelS a2))] [] (.bool true) [] := by
  have hla0 : ∀ m, (encL m (tSchema a0)).length = 3 := fun m => by rw [encL_len, tSchema_len]
  have hka0 : ∀ m, (encL m (tSchema a0)).take 3 = encL m (tSchema a0) := fun m => List.take_of_length_le (by rw [hla0]; omega)
  obtain ⟨r0, hr0, hz0⟩ : ∃ r, SZ 1048576 (szL (tSchema a0)) r ∧ (0 ≤ (0 : Int) → (0 : Int) ≤ 1048576 → ∀ K, Ct Tryz.prog 5 [.agg (encL .no (tSchema a0)), .int .i64 1048576] K (.int .i64 r) K) := ⟨_, subz_SZ _ _, fun h1 h2 K => by
    obtain ⟨r, h, hr⟩ := c_szSchema a0 1048576 K (by omega) (by omega)
    rw [SZ_eq hr] at h; exact h⟩
  obtain ⟨r1, hr1, hz1⟩ : ∃ r, SZ r0 ((a2.length + szR (tSelS a2))) r ∧ (0 ≤ r0 → r0 ≤ 1048576 → ∀ K, Ct Tryz.prog 6 [.sl .no a2.length (encR .no (tSelS a2)), .int .i64 r0] K (.int .i64 r) K) := ⟨_, subz_SZ _ _, fun h1 h2 K => by
    obtain ⟨r, h, hr⟩ := c_szSelS a2 r0 K (by omega) (by omega)
    rw [SZ_eq hr] at h; exact h⟩
  refine ct_fn { n0 := 16, ex := [], tk := [36, 38, 42, 57], es := true, xr := [13, 14, 16, 18, 23, 28, 34, 37], bw := [15, 16] } Tryz.func3 rfl (by kernel_rfl) (by kernel_rfl) rfl ?_
  simp -implicitDefEqProofs [Tryz.f3, flat_shL, len_shL, hla0, hka0]
  intro hma1 hla1
  refine callK_of (hz0 (by omega) (by omega) _) ?_
  simp -implicitDefEqProofs [flat_shL, len_shL, hla0, hka0]
  intro h0
  unfold SZ at hr0
  refine callK_of (hz1 (by omega) (by omega) _) ?_
  simp -implicitDefEqProofs [flat_shL, len_shL, hla0, hka0]
  intro h1
  unfold SZ at hr1
  have hsa0 : szL (tSchema a0) ≤ 1048576 := by omega
  have hta0 := fun K => (c_toSchema a0 K hsa0).ofAgg
  have hxa0 := fun K => c_toSchema a0 K hsa0
  have hca0 := cnF_le (wd_Schema a0)
  have hc2a0 := tSchema_len a0
  have hsa2 : (a2.length + szR (tSelS a2)) ≤ 1048576 := by omega
  have hta2 := fun K => (c_toSelS a2 K hsa2).ofSl
  have hxa2 := fun K => c_toSelS a2 K hsa2
  have hca2 := cn_SelS a2
  have hi := fun K => c_UsesIn a0 a1 a2 K (by omega)
  have hsp := fun K => c_UsesInS a0 a1 a2 K (by omega)
  have hbw := bnd_UsesIn a0 a1 a2 (by omega)
  generalize hw : usesIn a0 a1 a2 = w at *
  have hn1 : ¬ ((1 : Int) + (cnF (tSchema a0) : Nat) + (cnR (tSelS a2) : Nat) < 0) := by omega
  have hn2 : ¬ ((1 : Int) + (cnR (tUseS w) : Nat) < 0) := by omega
  intros
  refine callK_of (hta0 _) ?_
  simp -implicitDefEqProofs [eqB_self, lend_encR, closed_ofR, toEx_ofR, hn1, hn2, flat_shL, len_shL, hla0, hka0]
  refine callK_of (hta2 _) ?_
  simp -implicitDefEqProofs [eqB_self, lend_encR, closed_ofR, toEx_ofR, hn1, hn2, flat_shL, len_shL, hla0, hka0]
  refine callK_of (hsp _) ?_
  simp -implicitDefEqProofs [eqB_self, lend_encR, closed_ofR, toEx_ofR, hn1, hn2, flat_shL, len_shL, hla0, hka0]
  intros
  refine callK_of (hxa0 _) ?_
  simp -implicitDefEqProofs [eqB_self, lend_encR, closed_ofR, toEx_ofR, hn1, hn2, flat_shL, len_shL, hla0, hka0]
  intros
  refine callK_of (hxa2 _) ?_
  simp -implicitDefEqProofs [eqB_self, lend_encR, closed_ofR, toEx_ofR, hn1, hn2, flat_shL, len_shL, hla0, hka0]
  intros
  refine callK_of (hi _) ?_
  simp -implicitDefEqProofs [eqB_self, lend_encR, closed_ofR, toEx_ofR, hn1, hn2, flat_shL, len_shL, hla0, hka0]
  intros
  refine callK_of (c_eqUseS w w _) ?_
  simp -implicitDefEqProofs [eqB_self, lend_encR, closed_ofR, toEx_ofR, hn1, hn2, flat_shL, len_shL, hla0, hka0]
  intros
  refine wRun_draw true rfl (by decide +kernel) ?_
  simp -implicitDefEqProofs [eqB_self, lend_encR, closed_ofR, toEx_ofR, hn1, hn2, flat_shL, len_shL, hla0, hka0]
  refine callK_of (hta0 _) ?_
  simp -implicitDefEqProofs [eqB_self, lend_encR, closed_ofR, toEx_ofR, hn1, hn2, flat_shL, len_shL, hla0, hka0]
  refine callK_of (c_eqSchema a0 a0 _) ?_
  simp -implicitDefEqProofs [eqB_self, lend_encR, closed_ofR, toEx_ofR, hn1, hn2, flat_shL, len_shL, hla0, hka0]
  intros
  refine callK_of (hta2 _) ?_
  simp -implicitDefEqProofs [eqB_self, lend_encR, closed_ofR, toEx_ofR, hn1, hn2, flat_shL, len_shL, hla0, hka0]
  refine callK_of (c_eqSelS a2 a2 _) ?_
  simp -implicitDefEqProofs [eqB_self, lend_encR, closed_ofR, toEx_ofR, hn1, hn2, flat_shL, len_shL, hla0, hka0]
  intros
  refine callK_of (c_markSchema a0 _ _ ?_ ?_) ?_
  · omega
  · omega
  simp -implicitDefEqProofs [eqB_self, lend_encR, closed_ofR, toEx_ofR, hn1, hn2, flat_shL, len_shL, hla0, hka0]
  intros
  refine endB_of (c_markSelS a2 _ _ ?_ ?_) (by simp) ?_
  · omega
  · omega
  simp -implicitDefEqProofs [eqB_self, lend_encR, closed_ofR, toEx_ofR, hn1, hn2, flat_shL, len_shL, hla0, hka0]
  intros
  refine callK_still (fun _ => c_eqUseS w w _) ?_
  simp -implicitDefEqProofs [eqB_self, lend_encR, closed_ofR, toEx_ofR, hn1, hn2, flat_shL, len_shL, hla0, hka0]
  intros
  refine endB_of (c_markUseS w _ _ ?_ ?_) (by simp) ?_
  · omega
  · omega
  simp -implicitDefEqProofs [eqB_self, lend_encR, closed_ofR, toEx_ofR, hn1, hn2, flat_shL, len_shL, hla0, hka0]
  intros
  refine callK_of (c_heldUseS w _ _ ?_ ?_) ?_
  · omega
  · omega
  simp -implicitDefEqProofs [eqB_self, lend_encR, closed_ofR, toEx_ofR, hn1, hn2, flat_shL, len_shL, hla0, hka0]
  intros
  refine callK_of (hta0 _) ?_
  simp -implicitDefEqProofs [eqB_self, lend_encR, closed_ofR, toEx_ofR, hn1, hn2, flat_shL, len_shL, hla0, hka0]
  refine callK_of (hta2 _) ?_
  simp -implicitDefEqProofs [eqB_self, lend_encR, closed_ofR, toEx_ofR, hn1, hn2, flat_shL, len_shL, hla0, hka0]
  refine callK_of (hi _) ?_
  simp -implicitDefEqProofs [eqB_self, lend_encR, closed_ofR, toEx_ofR, hn1, hn2, flat_shL, len_shL, hla0, hka0]
  intros
  refine callK_of (c_eqUseS w w _) ?_
  simp -implicitDefEqProofs [eqB_self, lend_encR, closed_ofR, toEx_ofR, hn1, hn2, flat_shL, len_shL, hla0, hka0]
  intros
  refine callK_of (c_heldUseS w _ _ ?_ ?_) ?_
  · omega
  · omega
  simp -implicitDefEqProofs [eqB_self, lend_encR, closed_ofR, toEx_ofR, hn1, hn2, flat_shL, len_shL, hla0, hka0]
end Go.Proofs.YthagllbnkbahnaaGreat.Abs
