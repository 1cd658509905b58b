/- Marks of a Json that is no part of a slice. No condition. -/
import Derived.Test.YthagllbnkbahnaaDoorMarkS
import Derived.Test.YthagllbnkbahnaaDoorMarks
set_option linter.unusedVariables false
set_option linter.unusedSimpArgs false
namespace Go.Proofs.YthagllbnkbahnaaDoor.Abs
open Go
set_option maxHeartbeats 1000000
set_option maxRecDepth 100000
theorem c_markJson (a : DJson) (k : Int) (K) (h1 : 0 ≤ k) (h2 : k + cnF (tJson a) < 1000000000000000000) : CtB Tryd.prog 7 [.agg (encL .ex (tJson a)), .int .i64 k] K (.int .i64 (k + cnF (tJson a))) K (.agg (encL .ex (mkF (tJson a) k))) := by
  obtain ⟨x0, x1, x2, x3⟩ := a
  simp only [tJson, cnF] at h2
  refine ct_fnB { n0 := 5, ex := [], tk := [], kp := [2], es := true, bw := [16, 17] } Tryd.func7 rfl (by kernel_rfl) (by kernel_rfl) rfl ?_
  intro y
  simp -implicitDefEqProofs [Tryd.f7, tJson, encL, encT]
  intro zs hy hz
  match zs, hz with
  | [z0, z1, z2, z3], _ =>
    simp -implicitDefEqProofs
    refine endB_of (c_markJsonS x2 k _ h1 (by omega)) (by simp) ?_
    simp -implicitDefEqProofs
    refine endB_of (c_markStringS x3 (k + (cnR (tJsonS x2) : Nat)) _ (by omega) (by omega)) (by simp) ?_
    simp -implicitDefEqProofs [mkF, cnF, encL, encT, mkR_len]
    omega

theorem c_heldJson (a : DJson) (k : Int) (K) (h1 : 0 ≤ k) (h2 : k + cnF (tJson a) < 1000000000000000000) : Ct Tryd.prog 8 [.agg (encL .no (mkF (tJson a) k)), .int .i64 k] K (.int .i64 (k + cnF (tJson a))) K := by
  obtain ⟨x0, x1, x2, x3⟩ := a
  simp only [tJson, cnF] at h2
  have hc1 := fun K => c_heldJsonS x2 k K h1 (by omega)
  have hc2 := fun K => c_heldStringS x3 (k + (cnR (tJsonS x2) : Nat)) K (by omega) (by omega)
  have hn1 : ¬ (k + (cnR (tJsonS x2) : Nat) < 0) := by omega
  have hn2 : ¬ (k + (cnR (tJsonS x2) : Nat) + (cnR (tStrS x3) : Nat) < 0) := by omega
  refine ct_fn { n0 := 5, ex := [], tk := [8, 14, 17] } Tryd.func8 rfl (by kernel_rfl) (by kernel_rfl) rfl ?_
  simp -implicitDefEqProofs [Tryd.f8, tJson, mkF, encL, encT, mkR_len]
  refine callK_of (hc1 _) ?_
  simp -implicitDefEqProofs [hn1]
  refine callK_of (hc2 _) ?_
  simp -implicitDefEqProofs [hn2, cnF]
  omega
end Go.Proofs.YthagllbnkbahnaaDoor.Abs
