/- FnExactReasonOf: the row: whatever its arguments, the law returns true, and they read as they did. No condition. -/
import Derived.Test.YtcgkcbmhjbbjmaaLReasonOf
import Derived.Test.YtcgkcbmhjbbjmaaShr
set_option linter.unusedVariables false
namespace Go.Proofs.Ytcgkcbmhjbbjmaa.Abs
open Go
set_option maxRecDepth 100000 in
theorem lifted (os : Os) (started : os.Started) (H : Type) (enc : TypeId × Value → H) :
    ReturnsInHanded {} Try.checked os 4 .any (Rows.fnExactReasonOfSpec.pre6 enc Try.prog Try.f4 Rows.fnExactReasonOfRow.domain false) (Rows.fnExactReasonOfSpec.post enc Try.prog Try.f4 false true false false) := by
  refine law_returns (C := Try.checked) [31, 133, 9, 39, 142, 67, 3, 65, 22] own started (by kernel_rfl) Try.func4
    (ChangeSpec.witness6 (enc := enc) (C := Try.checked) false ⟨#[], #[.slice none 0 0], []⟩ 8 (by kernel_rfl) (by kernel_rfl) (by kernel_rfl) (by kernel_rfl))
    rfl rfl (fun ds hds => ?_) rfl Try.underlying4 (by kernel_rfl) (by kernel_rfl) (by kernel_rfl) (fun args h => ?_)
  · have hds : ds.length = 1 := hds
    match ds, hds with
    | [d0], _ => rfl
  · replace h : TypedVs Try.prog [31] args := h
    cases h with
    | cons h0 q1 =>
      cases q1
      have g0 := typedV_one (by rw [td31]; simp) h0
      obtain ⟨a0, e0⟩ := inv_DirS g0
      cases e0
      exact c_law a0
theorem row1 : Rows.fnExactReasonOfRow.wf (OpenSpec.ofChange Rows.fnExactReasonOfSpec) = true := by kernel_rfl
theorem row2 : Try.f4.params.all (Try.prog.readableRec ·) = true := by kernel_rfl
theorem row3 : namedTie Try.prog Rows.fnExactReasonOfRow.named Rows.fnExactReasonOfSpec.vars = true := by kernel_rfl
theorem row4 : (Rows.fnExactReasonOfRow.stops == []) = true := by kernel_rfl
theorem row5 : (Rows.fnExactReasonOfRow.knobs == []) = true := by kernel_rfl
theorem row6 : (Rows.fnExactReasonOfRow.inPlace == Try.prog.inPlace 4) = true := by kernel_rfl
theorem row7 : (Rows.fnExactReasonOfRow.unfollowed == Try.prog.unfollowed 4) = true := by kernel_rfl
theorem row8 : (Rows.fnExactReasonOfRow.recurses == Try.prog.recurses 4) = true := by kernel_rfl
theorem row9 : (Rows.fnExactReasonOfRow.named == Try.prog.varsNamed 4) = true := by kernel_rfl
theorem row10 : (Rows.fnExactReasonOfRow.maps == (Try.f4.params.toList ++ Rows.fnExactReasonOfSpec.plain.varTypes Try.prog).any (Try.prog.mapsRec ·)) = true := by kernel_rfl
theorem row11 : (Rows.fnExactReasonOfRow.ifaces == (Try.f4.params.toList ++ Rows.fnExactReasonOfSpec.plain.varTypes Try.prog).any (Try.prog.ifacesRec ·)) = true := by kernel_rfl
theorem row12 : (Rows.fnExactReasonOfRow.mapsOut == Try.prog.mapsAmong Try.f4.resultTypes.toList) = true := by kernel_rfl
theorem row13 : (Rows.fnExactReasonOfRow.loops == (Try.f4.params.toList ++ Rows.fnExactReasonOfSpec.plain.varTypes Try.prog).any (Try.prog.loopsFrom ·)) = true := by kernel_rfl
theorem row14 : (Rows.fnExactReasonOfRow.wideKeys == (Try.f4.params.toList ++ Rows.fnExactReasonOfSpec.plain.varTypes Try.prog ++ Try.f4.resultTypes.toList).any (Try.prog.wideKeysFrom ·)) = true := by kernel_rfl
theorem row15 : Rows.fnExactReasonOfSpec.vars.all (Try.prog.varReadable ·) = true := by kernel_rfl
theorem row16 : Try.f4.resultTypes.all (fun t => Try.prog.readableRec t && decide (t < Try.prog.types.size)) = true := by kernel_rfl
theorem row17 : (Rows.fnExactReasonOfRow.ifacesOut == Try.f4.resultTypes.toList.any (Try.prog.ifacesRec ·)) = true := by kernel_rfl
theorem row18 : (Rows.fnExactReasonOfRow.loopsOut == Try.f4.resultTypes.toList.any (Try.prog.loopsFrom ·)) = true := by kernel_rfl
theorem row19 : Rows.fnExactReasonOfRow.shortTexts.isNone = true := by kernel_rfl
theorem row20 : (Rows.fnExactReasonOfRow.kinds == (if Rows.fnExactReasonOfRow.domain.isEmpty then [] else Try.f4.params.toList.map fun t => match Try.prog.underlying t with | some (.int k) => some k | _ => none)) = true := by kernel_rfl
theorem row21 : (Rows.fnExactReasonOfRow.pinned == Rows.fnExactReasonOfRow.pinnedBy) = true := by kernel_rfl
theorem row22 : (Rows.fnExactReasonOfRow.veiled == (Try.f4.params.toList ++ Rows.fnExactReasonOfSpec.plain.varTypes Try.prog ++ Try.f4.resultTypes.toList).any (Try.prog.veiledRec ·)) = true := by kernel_rfl
theorem row23 : Rows.fnExactReasonOfRow.veiledFits Try.prog Try.f4.params.toList (Try.f4.params.toList ++ Rows.fnExactReasonOfSpec.plain.varTypes Try.prog ++ Try.f4.resultTypes.toList) = true := by kernel_rfl
set_option maxRecDepth 100000 in
theorem over : Rows.fnExactReasonOfRow.holds Try.pinned (OpenSpec.ofChange Rows.fnExactReasonOfSpec) :=
  OpenClaim.holds_of_wide 4 Try.f4 rfl rfl rfl rfl rfl rfl rfl ⟨rfl, rfl, rfl, rfl, rfl⟩ rfl rfl rfl rfl rfl (by kernel_rfl) Try.func4 (joined_of shr_laid shr_maps shr_stops shr_knobs shr_plain shr_heard shr_enter shr_lifted shr_make row1 row2 row3 row4 row5 row6 row7 row8 row9 row10 row11 row12 row13 row14 row15 row16 row17 row18 row19 row20 row21 row22 row23)
    (of_decide_eq_true (by kernel_rfl)) (by unfold Func.isWrapper; first | (rw [if_pos (by decide +kernel)]; kernel_rfl) | (rw [if_neg (by decide +kernel)]; exact ⟨rfl, rfl⟩))
    (fun os started H enc _ => lifted os started H enc)
end Go.Proofs.Ytcgkcbmhjbbjmaa.Abs
namespace Go.Proofs.Ytcgkcbmhjbbjmaa
/-- The row, under a short name, for the claim. -/
theorem fnExactReasonOf_holds : Rows.FnExactReasonOfSaid := Abs.over
#print axioms fnExactReasonOf_holds
end Go.Proofs.Ytcgkcbmhjbbjmaa
