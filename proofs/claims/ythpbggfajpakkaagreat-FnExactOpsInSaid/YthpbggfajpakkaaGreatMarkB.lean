/- PRINTED by marka.py: marks of what a law was handed as a struct: the call uses it up. No condition. -/
import Derived.Test.YthpbggfajpakkaaGreatMarksD
import Derived.Test.YthpbggfajpakkaaGreatMarkA
set_option linter.unusedVariables false
set_option linter.unusedSimpArgs false
namespace Go.Proofs.YthpbggfajpakkaaGreat.Abs
open Go
set_option maxHeartbeats 1000000
set_option maxRecDepth 100000
theorem c_markDoc (a : DDoc) (k : Int) (K) (h1 : 0 ≤ k) (h2 : k + cnF (tDoc a) < 1000000000000000000) : Ct Tryz.prog 42 [.agg (encL .ex (tDoc a)), .int .i64 k] K (.int .i64 (k + cnF (tDoc a))) K := by
  obtain ⟨x0⟩ := a
  simp only [tDoc, cnF_app, cnF, List.cons_append, List.nil_append, List.append_nil] at h2 ⊢
  refine ct_fn { n0 := 5, ex := [], tk := [0, 6] } Tryz.func42 rfl (by kernel_rfl) (by kernel_rfl) rfl ?_
  simp -implicitDefEqProofs [Tryz.f42, encL_app, encL, encT]
  refine callK_of (CtB.ct (c_markItemS x0 (k) _ (by omega) (by omega)) (by simp)) ?_
  simp -implicitDefEqProofs
  try (first | omega | (congr 1; omega) | exact AC.le_of_eq (by congr 1; omega))
end Go.Proofs.YthpbggfajpakkaaGreat.Abs

