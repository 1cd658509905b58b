/- PRINTED by lawmark2.py: FnExactReachOf: the law's contract. No condition. -/
import Derived.Test.YtkpdlbidadcdjaaReach
import Derived.Test.YtkpdlbidadcdjaaMarks
import Derived.Test.YtkpdlbidadcdjaaInv
set_option linter.unusedVariables false
set_option linter.unusedSimpArgs false
namespace Go.Proofs.Ytkpdlbidadcdjaa.Abs
open Go
set_option maxHeartbeats 4000000
set_option maxRecDepth 100000
theorem flat_shL {m : Md} {r : List Tr} : (shareL (encL m r)).all flat = true := by
  rw [shareL_eq]
  induction r with
  | nil => rfl
  | cons t ts ih =>
    cases t with
    | sl e rows => cases m <;> simpa [encL, encT] using ih
    | _ => simpa [encL, encT] using ih
theorem isX_no {r : List Tr} : isX (.agg (encL .no r)) = false := by
  simp only [isX]
  induction r with
  | nil => rfl
  | cons t ts ih => cases t <;> simpa [encL, encT, cellX] using ih
theorem isX_of {r : List Tr} : isX (.agg (encL .of r)) = false := by
  simp only [isX]
  induction r with
  | nil => rfl
  | cons t ts ih => cases t <;> simpa [encL, encT, cellX] using ih
attribute [simp ↓] isX_no isX_of
theorem len_shL {cs : List AC} : (shareL cs).length = cs.length := by rw [shareL_eq, List.length_map]
theorem c_law (a0 : List DFrag) (a1 : List DSel) : Ct Try.prog 3 [.sl .no a0.length (encR .no (tFragS a0)), .sl .no a1.length (encR .no (tSelS a1))] [] (.bool true) [] := by
  obtain ⟨r0, hr0, hz0⟩ : ∃ r, SZ 1048576 ((a0.length + szR (tFragS a0))) r ∧ (0 ≤ (0 : Int) → (0 : Int) ≤ 1048576 → ∀ K, Ct Try.prog 4 [.sl .no a0.length (encR .no (tFragS a0)), .int .i64 1048576] K (.int .i64 r) K) := ⟨_, subz_SZ _ _, fun h1 h2 K => by
    obtain ⟨r, h, hr⟩ := c_szFragS a0 1048576 K (by omega) (by omega)
    rw [SZ_eq hr] at h; exact h⟩
  obtain ⟨r1, hr1, hz1⟩ : ∃ r, SZ r0 ((a1.length + szR (tSelS a1))) r ∧ (0 ≤ r0 → r0 ≤ 1048576 → ∀ K, Ct Try.prog 5 [.sl .no a1.length (encR .no (tSelS a1)), .int .i64 r0] K (.int .i64 r) K) := ⟨_, subz_SZ _ _, fun h1 h2 K => by
    obtain ⟨r, h, hr⟩ := c_szSelS a1 r0 K (by omega) (by omega)
    rw [SZ_eq hr] at h; exact h⟩
  refine ct_fn { n0 := 14, ex := [], tk := [30, 32, 35, 79], es := true, xr := [11, 12, 14, 16, 21, 26, 32, 35], bw := [13, 14, 15] } Try.func3 rfl (by kernel_rfl) (by kernel_rfl) rfl ?_
  simp -implicitDefEqProofs [Try.f3, flat_shL, len_shL]
  refine callK_of (hz0 (by omega) (by omega) _) ?_
  simp -implicitDefEqProofs [flat_shL, len_shL]
  intro h0
  unfold SZ at hr0
  refine callK_of (hz1 (by omega) (by omega) _) ?_
  simp -implicitDefEqProofs [flat_shL, len_shL]
  intro h1
  unfold SZ at hr1
  have hsa0 : (a0.length + szR (tFragS a0)) ≤ 1048576 := by omega
  have hta0 := fun K => (c_toFragS a0 K hsa0).ofSl
  have hxa0 := fun K => c_toFragS a0 K hsa0
  have hca0 := cn_FragS a0
  have hsa1 : (a1.length + szR (tSelS a1)) ≤ 1048576 := by omega
  have hta1 := fun K => (c_toSelS a1 K hsa1).ofSl
  have hxa1 := fun K => c_toSelS a1 K hsa1
  have hca1 := cn_SelS a1
  have hi := fun K => c_ReachOf a0 a1 K (by omega) (by omega)
  have hsp := fun K => c_ReachOfS a0 a1 K (by omega) (by omega)
  have hbw := bnd_ReachOf a0 a1
  generalize hw : reach a0 a1 = w at *
  have hn1 : ¬ ((1 : Int) + (cnR (tFragS a0) : Nat) + (cnR (tSelS a1) : Nat) < 0) := by omega
  have hn2 : ¬ ((1 : Int) + (cnR (tStrS w) : Nat) < 0) := by omega
  intros
  refine callK_of (hta0 _) ?_
  simp -implicitDefEqProofs [eqB_self, lend_encR, closed_ofR, toEx_ofR, hn1, hn2, flat_shL, len_shL]
  refine callK_of (hta1 _) ?_
  simp -implicitDefEqProofs [eqB_self, lend_encR, closed_ofR, toEx_ofR, hn1, hn2, flat_shL, len_shL]
  refine callK_of (hsp _) ?_
  simp -implicitDefEqProofs [eqB_self, lend_encR, closed_ofR, toEx_ofR, hn1, hn2, flat_shL, len_shL]
  intros
  refine callK_of (hxa0 _) ?_
  simp -implicitDefEqProofs [eqB_self, lend_encR, closed_ofR, toEx_ofR, hn1, hn2, flat_shL, len_shL]
  intros
  refine callK_of (hxa1 _) ?_
  simp -implicitDefEqProofs [eqB_self, lend_encR, closed_ofR, toEx_ofR, hn1, hn2, flat_shL, len_shL]
  intros
  refine callK_of (hi _) ?_
  simp -implicitDefEqProofs [eqB_self, lend_encR, closed_ofR, toEx_ofR, hn1, hn2, flat_shL, len_shL]
  intros
  refine callK_of (c_eqStringS w w _) ?_
  simp -implicitDefEqProofs [eqB_self, lend_encR, closed_ofR, toEx_ofR, hn1, hn2, flat_shL, len_shL]
  intros
  refine callK_of (hta0 _) ?_
  simp -implicitDefEqProofs [eqB_self, lend_encR, closed_ofR, toEx_ofR, hn1, hn2, flat_shL, len_shL]
  refine callK_of (c_eqFragS a0 a0 _) ?_
  simp -implicitDefEqProofs [eqB_self, lend_encR, closed_ofR, toEx_ofR, hn1, hn2, flat_shL, len_shL]
  intros
  refine callK_of (hta1 _) ?_
  simp -implicitDefEqProofs [eqB_self, lend_encR, closed_ofR, toEx_ofR, hn1, hn2, flat_shL, len_shL]
  refine callK_of (c_eqSelS a1 a1 _) ?_
  simp -implicitDefEqProofs [eqB_self, lend_encR, closed_ofR, toEx_ofR, hn1, hn2, flat_shL, len_shL]
  intros
  refine endB_of (c_markFragS a0 _ _ ?_ ?_) (by simp) ?_
  · omega
  · omega
  simp -implicitDefEqProofs [eqB_self, lend_encR, closed_ofR, toEx_ofR, hn1, hn2, flat_shL, len_shL]
  intros
  refine endB_of (c_markSelS a1 _ _ ?_ ?_) (by simp) ?_
  · omega
  · omega
  simp -implicitDefEqProofs [eqB_self, lend_encR, closed_ofR, toEx_ofR, hn1, hn2, flat_shL, len_shL]
  intros
  refine callK_still (fun _ => c_eqStringS w w _) ?_
  simp -implicitDefEqProofs [eqB_self, lend_encR, closed_ofR, toEx_ofR, hn1, hn2, flat_shL, len_shL]
  intros
  refine endB_of (c_markStringS w _ _ ?_ ?_) (by simp) ?_
  · omega
  · omega
  simp -implicitDefEqProofs [eqB_self, lend_encR, closed_ofR, toEx_ofR, hn1, hn2, flat_shL, len_shL]
  intros
  refine callK_of (c_heldStringS w _ _ ?_ ?_) ?_
  · omega
  · omega
  simp -implicitDefEqProofs [eqB_self, lend_encR, closed_ofR, toEx_ofR, hn1, hn2, flat_shL, len_shL]
  intros
  refine callK_of (hta0 _) ?_
  simp -implicitDefEqProofs [eqB_self, lend_encR, closed_ofR, toEx_ofR, hn1, hn2, flat_shL, len_shL]
  refine callK_of (hta1 _) ?_
  simp -implicitDefEqProofs [eqB_self, lend_encR, closed_ofR, toEx_ofR, hn1, hn2, flat_shL, len_shL]
  refine callK_of (hi _) ?_
  simp -implicitDefEqProofs [eqB_self, lend_encR, closed_ofR, toEx_ofR, hn1, hn2, flat_shL, len_shL]
  intros
  refine callK_of (c_eqStringS w w _) ?_
  simp -implicitDefEqProofs [eqB_self, lend_encR, closed_ofR, toEx_ofR, hn1, hn2, flat_shL, len_shL]
  intros
  refine callK_of (c_heldStringS w _ _ ?_ ?_) ?_
  · omega
  · omega
  simp -implicitDefEqProofs [eqB_self, lend_encR, closed_ofR, toEx_ofR, hn1, hn2, flat_shL, len_shL]
end Go.Proofs.Ytkpdlbidadcdjaa.Abs
