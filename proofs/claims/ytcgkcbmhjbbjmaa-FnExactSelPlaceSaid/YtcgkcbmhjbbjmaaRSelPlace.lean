/- FnExactSelPlace: the row: whatever its arguments, the law returns true, and they read as they did. No condition. -/
import Derived.Test.YtcgkcbmhjbbjmaaSelPlace
import Derived.Test.YtcgkcbmhjbbjmaaRows
set_option linter.unusedVariables false
namespace Go.Proofs.Ytcgkcbmhjbbjmaa.Abs
open Go
theorem own : ownKnob Try.prog.godebug = none := by kernel_rfl
set_option maxRecDepth 100000 in
theorem lifted (os : Os) (started : os.Started) (H : Type) (enc : TypeId × Value → H) :
    ReturnsInHanded {} Try.checked os 6 .any (Rows.fnExactSelPlaceSpec.pre6 enc Try.prog Try.f6 Rows.fnExactSelPlaceRow.domain false) (Rows.fnExactSelPlaceSpec.post enc Try.prog Try.f6 false true false false) := by
  refine law_returns (C := Try.checked) [47, 3, 9, 39, 142, 67, 65, 22, 31, 133, 45] own started (by kernel_rfl) Try.func6
    (ChangeSpec.witness6 (enc := enc) (C := Try.checked) false ⟨#[], #[.agg #[.int .i64 0, .string ⟨#[]⟩, .string ⟨#[]⟩, .string ⟨#[]⟩, .slice none 0 0, .slice none 0 0, .slice none 0 0]], []⟩ 8 (by kernel_rfl) (by kernel_rfl) (by kernel_rfl) (by kernel_rfl))
    rfl rfl (fun ds hds => ?_) rfl Try.underlying4 (by kernel_rfl) (by kernel_rfl) (by kernel_rfl) (fun args h => ?_)
  · have hds : ds.length = 1 := hds
    match ds, hds with
    | [d0], _ => rfl
  · replace h : TypedVs Try.prog [47] args := h
    cases h with
    | cons h0 q1 =>
      cases q1
      obtain ⟨cells0, rfl, g0⟩ := typedV_agg td47 h0
      obtain ⟨a0, rfl⟩ := inv_Sel g0
      exact c_law a0
theorem over : Rows.fnExactSelPlaceRow.holds Try.pinned (OpenSpec.ofChange Rows.fnExactSelPlaceSpec) :=
  OpenClaim.holds_of_wide 6 Try.f6 rfl rfl rfl rfl rfl rfl rfl ⟨rfl, rfl, rfl, rfl, rfl⟩ rfl rfl rfl rfl rfl (by kernel_rfl) Try.func6 (by kernel_rfl)
    (of_decide_eq_true (by kernel_rfl)) (by unfold Func.isWrapper; first | (rw [if_pos (by decide +kernel)]; kernel_rfl) | (rw [if_neg (by decide +kernel)]; exact ⟨rfl, rfl⟩))
    (fun os started H enc _ => lifted os started H enc)
end Go.Proofs.Ytcgkcbmhjbbjmaa.Abs
namespace Go.Proofs.Ytcgkcbmhjbbjmaa
/-- The row, under a short name, for the claim. -/
theorem fnExactSelPlace_holds : Rows.FnExactSelPlaceSaid := Abs.over
#print axioms fnExactSelPlace_holds
end Go.Proofs.Ytcgkcbmhjbbjmaa
