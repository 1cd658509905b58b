/- FnExactNameChanges: the law's contract. No condition. -/
import Derived.Test.YtcgkcbmhjbbjmaaFam
import Derived.Test.YtcgkcbmhjbbjmaaNames
import Derived.Test.YtcgkcbmhjbbjmaaInv
set_option linter.unusedVariables false
set_option linter.unusedSimpArgs false
namespace Go.Proofs.Ytcgkcbmhjbbjmaa.Abs
open Go
set_option maxHeartbeats 2000000
set_option maxRecDepth 100000
theorem cn_chg : ∀ {l : List DChange}, cnR (tChangeS l) = l.length * 3 := by
  intro l; induction l with
  | nil => rfl
  | cons x l ih => obtain ⟨x0, x1, x2⟩ := x; simp [tChangeS, tChange, cnR, cnL, cnT, ih]; omega
theorem cn_str : ∀ {l : List Bs}, cnR (tStrS l) = l.length := by
  intro l; induction l with
  | nil => rfl
  | cons x l ih => simp [tStrS, cnR, cnL, cnT, ih]; omega
theorem c_law (a0 : Bs) (a1 a2 : List Bs) (a3 a4 : Int) : Ct Try.prog 3 [.str a0, .sl .no a1.length (encR .no (tStrS a1)), .sl .no a2.length (encR .no (tStrS a2)), .int .i64 a3, .int .i64 a4] [] (.bool true) [] := by
  obtain ⟨r0, hr0, hz0⟩ : ∃ r, SZ 1048576 ((a1.length + szR (tStrS a1))) r ∧ (0 ≤ (0 : Int) → (0 : Int) ≤ 1048576 → ∀ K, Ct Try.prog 13 [.sl .no a1.length (encR .no (tStrS a1)), .int .i64 1048576] K (.int .i64 r) K) := ⟨_, subz_SZ _ _, fun h1 h2 K => by
    obtain ⟨r, h, hr⟩ := c_szStringS a1 1048576 K (by omega) (by omega)
    rw [SZ_eq hr] at h; exact h⟩
  obtain ⟨r1, hr1, hz1⟩ : ∃ r, SZ r0 ((a2.length + szR (tStrS a2))) r ∧ (0 ≤ r0 → r0 ≤ 1048576 → ∀ K, Ct Try.prog 13 [.sl .no a2.length (encR .no (tStrS a2)), .int .i64 r0] K (.int .i64 r) K) := ⟨_, subz_SZ _ _, fun h1 h2 K => by
    obtain ⟨r, h, hr⟩ := c_szStringS a2 r0 K (by omega) (by omega)
    rw [SZ_eq hr] at h; exact h⟩
  refine ct_fn { n0 := 20, ex := [], tk := [42, 44, 50], es := true, xr := [13, 14, 16, 18, 23, 28, 34, 37], bw := [19, 20] } Try.func3 rfl (by kernel_rfl) (by kernel_rfl) rfl ?_
  simp -implicitDefEqProofs [Try.f3]
  intro hm hl
  refine callK_of (hz0 (by omega) (by omega) _) ?_
  simp -implicitDefEqProofs
  intro h0
  unfold SZ at hr0
  refine callK_of (hz1 (by omega) (by omega) _) ?_
  simp -implicitDefEqProofs
  intro h1
  unfold SZ at hr1
  have hs1 : a1.length ≤ 1048576 := by omega
  have hs2 : a2.length ≤ 1048576 := by omega
  have ht1 := fun K => (c_toStringS a1 K hs1).ofSl
  have hx1 := fun K => c_toStringS a1 K hs1
  have ht2 := fun K => (c_toStringS a2 K hs2).ofSl
  have hx2 := fun K => c_toStringS a2 K hs2
  have hi := fun K => c_NameChanges a0 a1 a2 a3 a4 K (by omega) (by omega)
  have hsp := fun K => c_NameChangesS a0 a1 a2 a3 a4 K (by omega) (by omega)
  have hc1 : cnR (tStrS a1) = a1.length := cn_str
  have hc2 : cnR (tStrS a2) = a2.length := cn_str
  have hbw : (nameChanges a0 a1 a2 a3 a4).length ≤ a1.length + a2.length := by
    unfold nameChanges; rw [List.length_append]
    have := told_len (code := a3) (owner := a0) (ys := a2) (xs := a1)
    have := told_len (code := a4) (owner := a0) (ys := a1) (xs := a2)
    omega
  generalize hw : nameChanges a0 a1 a2 a3 a4 = w at *
  have hcw : cnR (tChangeS w) = w.length * 3 := cn_chg
  have hn1 : ¬ ((1 : Int) + (cnR (tStrS a1) : Nat) + (cnR (tStrS a2) : Nat) < 0) := by omega
  have hn2 : ¬ ((1 : Int) + (cnR (tChangeS w) : Nat) < 0) := by omega
  refine callK_of (ht1 _) ?_
  simp -implicitDefEqProofs
  refine callK_of (ht2 _) ?_
  simp -implicitDefEqProofs
  refine callK_of (hsp _) ?_
  simp -implicitDefEqProofs
  refine callK_of (hx1 _) ?_
  simp -implicitDefEqProofs
  intros
  refine callK_of (hx2 _) ?_
  simp -implicitDefEqProofs
  intros
  refine callK_of (hi _) ?_
  simp -implicitDefEqProofs [lend_encR, closed_ofR, toEx_ofR]
  intros
  refine callK_of (c_eqChangeS w w _) ?_
  simp -implicitDefEqProofs [eqB_self, lend_encR, closed_ofR, toEx_ofR]
  intros
  refine callK_of (ht1 _) ?_
  simp -implicitDefEqProofs [lend_encR, closed_ofR, toEx_ofR]
  refine callK_of (c_eqStringS a1 a1 _) ?_
  simp -implicitDefEqProofs [eqB_self, lend_encR, closed_ofR, toEx_ofR]
  intros
  refine callK_of (ht2 _) ?_
  simp -implicitDefEqProofs [lend_encR, closed_ofR, toEx_ofR]
  refine callK_of (c_eqStringS a2 a2 _) ?_
  simp -implicitDefEqProofs [eqB_self, lend_encR, closed_ofR, toEx_ofR]
  intros
  refine endB_of (c_markStringS a1 _ _ ?_ ?_) (by simp) ?_
  · omega
  · omega
  simp -implicitDefEqProofs [lend_encR, closed_ofR, toEx_ofR]
  intros
  refine endB_of (c_markStringS a2 _ _ ?_ ?_) (by simp) ?_
  · omega
  · omega
  simp -implicitDefEqProofs [lend_encR, closed_ofR, toEx_ofR, hn1]
  intros
  refine callK_still (fun _ => c_eqChangeS w w _) ?_
  simp -implicitDefEqProofs [eqB_self, lend_encR, closed_ofR, toEx_ofR]
  intros
  refine endB_of (c_markChangeS w _ _ ?_ ?_) (by simp) ?_
  · omega
  · omega
  simp -implicitDefEqProofs [lend_encR, closed_ofR, toEx_ofR]
  intros
  refine callK_of (c_heldChangeS w _ _ ?_ ?_) ?_
  · omega
  · omega
  simp -implicitDefEqProofs [lend_encR, closed_ofR, toEx_ofR, hn2]
  intros
  refine callK_of (ht1 _) ?_
  simp -implicitDefEqProofs
  refine callK_of (ht2 _) ?_
  simp -implicitDefEqProofs
  refine callK_of (hi _) ?_
  simp -implicitDefEqProofs [lend_encR, closed_ofR, toEx_ofR]
  intros
  refine callK_of (c_eqChangeS w w _) ?_
  simp -implicitDefEqProofs [eqB_self, lend_encR, closed_ofR, toEx_ofR]
  intros
  refine callK_of (c_heldChangeS w _ _ ?_ ?_) ?_
  · omega
  · omega
  simp -implicitDefEqProofs [lend_encR, closed_ofR, toEx_ofR, hn2]
end Go.Proofs.Ytcgkcbmhjbbjmaa.Abs
