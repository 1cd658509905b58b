/- FnExactSelPlace: the contracts and the law. No condition. -/
import Derived.Test.YtcgkcbmhjbbjmaaFam
import Derived.Test.YtcgkcbmhjbbjmaaLend
import Derived.Test.YtcgkcbmhjbbjmaaInv
set_option linter.unusedVariables false
set_option linter.unusedSimpArgs false
namespace Go.Proofs.Ytcgkcbmhjbbjmaa.Abs
open Go
set_option maxHeartbeats 1000000
set_option maxRecDepth 100000
def selPlace (k : Int) : Bs := if k = 1 then [70, 73, 69, 76, 68] else if k = 2 then [70, 82, 65, 71, 77, 69, 78, 84, 95, 83, 80, 82, 69, 65, 68] else if k = 3 then [73, 78, 76, 73, 78, 69, 95, 70, 82, 65, 71, 77, 69, 78, 84] else []
theorem c_SelPlace (x : DSel) (K) : Ct Try.prog 35 [.agg (encL .no (tSel x))] K (.str (selPlace x.kind)) K := by
  obtain ⟨x0, x1, x2, x3, x4, x5, x6⟩ := x
  refine ct_fn { n0 := 3, ex := [4], tk := [] } Try.func35 rfl (by kernel_rfl) (by kernel_rfl) rfl ?_
  simp -implicitDefEqProofs [Try.f35, tSel, encL, encT]
  refine ⟨fun h => by simp [selPlace, h], fun h1 => ⟨fun h => by simp [selPlace, h], fun h2 => ⟨fun h => by simp [selPlace, h], fun h3 => by simp [selPlace, h1, h2, h3]⟩⟩⟩
theorem c_SelPlaceS (x : DSel) (K) : Ct Try.prog 33 [.agg (encL .no (tSel x))] K (.str (selPlace x.kind)) K := by
  obtain ⟨x0, x1, x2, x3, x4, x5, x6⟩ := x
  refine ct_fn { n0 := 3, ex := [4], tk := [] } Try.func33 rfl (by kernel_rfl) (by kernel_rfl) rfl ?_
  simp -implicitDefEqProofs [Try.f33, tSel, encL, encT]
  refine ⟨fun h => by simp [selPlace, h], fun h1 => ⟨fun h => by simp [selPlace, h], fun h2 => ⟨fun h => by simp [selPlace, h], fun h3 => by simp [selPlace, h1, h2, h3]⟩⟩⟩
theorem c_law (a : DSel) : Ct Try.prog 6 [.agg (encL .no (tSel a))] [] (.bool true) [] := by
  obtain ⟨r, hc, hr⟩ := c_szSel a 1048576 [[(encL .no (tSel a))]] (by omega) (by omega)
  have ht := fun hs => (fun K => (c_toSel a K hs).ofAgg)
  have hek := fun m => encL_len (m := m) (r := tSel a)
  rw [tSel_len] at hek
  have htk : ∀ m, (encL m (tSel a)).take 7 = encL m (tSel a) := fun m => List.take_of_length_le (by have := hek m; omega)
  refine ct_fn { n0 := 7, ex := [], tk := [16] } Try.func6 rfl (by kernel_rfl) (by kernel_rfl) rfl ?_
  simp -implicitDefEqProofs [Try.f6, hek, htk]
  refine callK_of hc ?_
  simp -implicitDefEqProofs [hek, htk]
  intro h0
  have hs : szL (tSel a) ≤ 1048576 := by unfold SZ at hr; omega
  have ht := ht hs
  refine callK_of (ht _) ?_
  simp -implicitDefEqProofs [hek, htk]
  refine callK_of (c_SelPlaceS a _) ?_
  simp -implicitDefEqProofs [hek, htk]
  refine callK_of (ht _) ?_
  simp -implicitDefEqProofs [hek, htk]
  refine callK_of (c_SelPlace a _) ?_
  simp -implicitDefEqProofs [hek, htk]
  refine wRun_draw true rfl (by decide +kernel) ?_
  simp -implicitDefEqProofs [hek, htk]
  refine callK_of (ht _) ?_
  simp -implicitDefEqProofs [hek, htk]
  refine callK_of (c_eqSel a a _) ?_
  simp -implicitDefEqProofs [hek, htk, eqB_self]
end Go.Proofs.Ytcgkcbmhjbbjmaa.Abs
