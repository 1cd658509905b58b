/- FnExactSpreadsIn: the row: whatever its arguments, the law returns true, and they read as they did. No condition. -/
import Derived.Test.YthpbggfajpakkaaLSpreadsIn
import Derived.Test.YthpbggfajpakkaaShr
set_option linter.unusedVariables false
namespace Go.Proofs.Ythpbggfajpakkaa.Abs
open Go
set_option maxRecDepth 100000 in
theorem lifted (os : Os) (started : os.Started) (H : Type) (enc : TypeId × Value → H) :
    ReturnsInHanded {} Try.checked os 3 .any (Rows.fnExactSpreadsInSpec.pre6 enc Try.prog Try.f3 Rows.fnExactSpreadsInRow.domain false) (Rows.fnExactSpreadsInSpec.post enc Try.prog Try.f3 false true false false) := by
  refine law_returns (C := Try.checked) [22, 45, 3, 9, 42, 97, 95, 93, 24, 43, 100] own started (by kernel_rfl) Try.func3
    (ChangeSpec.witness6 (enc := enc) (C := Try.checked) false ⟨#[], #[.slice none 0 0], []⟩ 8 (by kernel_rfl) (by kernel_rfl) (by kernel_rfl) (by kernel_rfl))
    rfl rfl (fun ds hds => ?_) rfl Try.underlying4 (by kernel_rfl) (by kernel_rfl) (by kernel_rfl) (fun args h => ?_)
  · have hds : ds.length = 1 := hds
    match ds, hds with
    | [d0], _ => rfl
  · replace h : TypedVs Try.prog [22] args := h
    cases h with
    | cons h0 q1 =>
      cases q1
      have g0 := typedV_one (by rw [td22]; simp) h0
      obtain ⟨a0, e0⟩ := inv_SelS g0
      cases e0
      exact c_law a0
theorem row1 : Rows.fnExactSpreadsInRow.wf (OpenSpec.ofChange Rows.fnExactSpreadsInSpec) = true := by kernel_rfl
theorem row2 : Try.f3.params.all (Try.prog.readableRec ·) = true := by kernel_rfl
theorem row3 : namedTie Try.prog Rows.fnExactSpreadsInRow.named Rows.fnExactSpreadsInSpec.vars = true := by kernel_rfl
theorem row4 : (Rows.fnExactSpreadsInRow.stops == []) = true := by kernel_rfl
theorem row5 : (Rows.fnExactSpreadsInRow.knobs == []) = true := by kernel_rfl
theorem row6 : (Rows.fnExactSpreadsInRow.inPlace == Try.prog.inPlace 3) = true := by kernel_rfl
theorem row7 : (Rows.fnExactSpreadsInRow.unfollowed == Try.prog.unfollowed 3) = true := by kernel_rfl
theorem row8 : (Rows.fnExactSpreadsInRow.recurses == Try.prog.recurses 3) = true := by kernel_rfl
theorem row9 : (Rows.fnExactSpreadsInRow.named == Try.prog.varsNamed 3) = true := by kernel_rfl
theorem row10 : (Rows.fnExactSpreadsInRow.maps == (Try.f3.params.toList ++ Rows.fnExactSpreadsInSpec.plain.varTypes Try.prog).any (Try.prog.mapsRec ·)) = true := by kernel_rfl
theorem row11 : (Rows.fnExactSpreadsInRow.ifaces == (Try.f3.params.toList ++ Rows.fnExactSpreadsInSpec.plain.varTypes Try.prog).any (Try.prog.ifacesRec ·)) = true := by kernel_rfl
theorem row12 : (Rows.fnExactSpreadsInRow.mapsOut == Try.prog.mapsAmong Try.f3.resultTypes.toList) = true := by kernel_rfl
theorem row13 : (Rows.fnExactSpreadsInRow.loops == (Try.f3.params.toList ++ Rows.fnExactSpreadsInSpec.plain.varTypes Try.prog).any (Try.prog.loopsFrom ·)) = true := by kernel_rfl
theorem row14 : (Rows.fnExactSpreadsInRow.wideKeys == (Try.f3.params.toList ++ Rows.fnExactSpreadsInSpec.plain.varTypes Try.prog ++ Try.f3.resultTypes.toList).any (Try.prog.wideKeysFrom ·)) = true := by kernel_rfl
theorem row15 : Rows.fnExactSpreadsInSpec.vars.all (Try.prog.varReadable ·) = true := by kernel_rfl
theorem row16 : Try.f3.resultTypes.all (fun t => Try.prog.readableRec t && decide (t < Try.prog.types.size)) = true := by kernel_rfl
theorem row17 : (Rows.fnExactSpreadsInRow.ifacesOut == Try.f3.resultTypes.toList.any (Try.prog.ifacesRec ·)) = true := by kernel_rfl
theorem row18 : (Rows.fnExactSpreadsInRow.loopsOut == Try.f3.resultTypes.toList.any (Try.prog.loopsFrom ·)) = true := by kernel_rfl
theorem row19 : Rows.fnExactSpreadsInRow.shortTexts.isNone = true := by kernel_rfl
theorem row20 : (Rows.fnExactSpreadsInRow.kinds == (if Rows.fnExactSpreadsInRow.domain.isEmpty then [] else Try.f3.params.toList.map fun t => match Try.prog.underlying t with | some (.int k) => some k | _ => none)) = true := by kernel_rfl
theorem row21 : (Rows.fnExactSpreadsInRow.pinned == Rows.fnExactSpreadsInRow.pinnedBy) = true := by kernel_rfl
theorem row22 : (Rows.fnExactSpreadsInRow.veiled == (Try.f3.params.toList ++ Rows.fnExactSpreadsInSpec.plain.varTypes Try.prog ++ Try.f3.resultTypes.toList).any (Try.prog.veiledRec ·)) = true := by kernel_rfl
theorem row23 : Rows.fnExactSpreadsInRow.veiledFits Try.prog Try.f3.params.toList (Try.f3.params.toList ++ Rows.fnExactSpreadsInSpec.plain.varTypes Try.prog ++ Try.f3.resultTypes.toList) = true := by kernel_rfl
set_option maxRecDepth 100000 in
theorem over : Rows.fnExactSpreadsInRow.holds Try.pinned (OpenSpec.ofChange Rows.fnExactSpreadsInSpec) :=
  OpenClaim.holds_of_wide 3 Try.f3 rfl rfl rfl rfl rfl rfl rfl ⟨rfl, rfl, rfl, rfl, rfl⟩ rfl rfl rfl rfl rfl (by kernel_rfl) Try.func3 (joined_of shr_laid shr_maps shr_stops shr_knobs shr_plain shr_heard shr_enter shr_lifted shr_make row1 row2 row3 row4 row5 row6 row7 row8 row9 row10 row11 row12 row13 row14 row15 row16 row17 row18 row19 row20 row21 row22 row23)
    (of_decide_eq_true (by kernel_rfl)) (by unfold Func.isWrapper; first | (rw [if_pos (by decide +kernel)]; kernel_rfl) | (rw [if_neg (by decide +kernel)]; exact ⟨rfl, rfl⟩))
    (fun os started H enc _ => lifted os started H enc)
end Go.Proofs.Ythpbggfajpakkaa.Abs
namespace Go.Proofs.Ythpbggfajpakkaa
/-- The row, under a short name, for the claim. -/
theorem fnExactSpreadsIn_holds : Rows.FnExactSpreadsInSaid := Abs.over
#print axioms fnExactSpreadsIn_holds
end Go.Proofs.Ythpbggfajpakkaa
