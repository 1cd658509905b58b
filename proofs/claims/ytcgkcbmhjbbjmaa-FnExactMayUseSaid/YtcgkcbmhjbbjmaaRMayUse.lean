/- FnExactMayUse: the row: whatever its arguments, the law returns true, and they read as they did. No condition. -/
import Derived.Test.YtcgkcbmhjbbjmaaLMayUse
import Derived.Test.YtcgkcbmhjbbjmaaShr
set_option linter.unusedVariables false
namespace Go.Proofs.Ytcgkcbmhjbbjmaa.Abs
open Go
set_option maxRecDepth 100000 in
theorem lifted (os : Os) (started : os.Started) (H : Type) (enc : TypeId × Value → H) :
    ReturnsInHanded {} Try.checked os 8 .any (Rows.fnExactMayUseSpec.pre6 enc Try.prog Try.f8 Rows.fnExactMayUseRow.domain false) (Rows.fnExactMayUseSpec.post enc Try.prog Try.f8 false true false false) := by
  refine law_returns (C := Try.checked) [69, 9, 64, 4, 67, 3, 65, 22, 31, 133, 39, 142, 71] own started (by kernel_rfl) Try.func8
    (ChangeSpec.witness6 (enc := enc) (C := Try.checked) false ⟨#[], #[.agg #[.string ⟨#[]⟩, .string ⟨#[]⟩, .string ⟨#[]⟩, .bool false, .int .i64 0, .string ⟨#[]⟩, .slice none 0 0, .slice none 0 0, .slice none 0 0], .agg #[.string ⟨#[]⟩, .string ⟨#[]⟩, .string ⟨#[]⟩, .bool false, .bool false]], []⟩ 8 (by kernel_rfl) (by kernel_rfl) (by kernel_rfl) (by kernel_rfl))
    rfl rfl (fun ds hds => ?_) rfl Try.underlying4 (by kernel_rfl) (by kernel_rfl) (by kernel_rfl) (fun args h => ?_)
  · have hds : ds.length = 2 := hds
    match ds, hds with
    | [d0, d1], _ => rfl
  · replace h : TypedVs Try.prog [69, 71] args := h
    cases h with
    | cons h0 q1 =>
      cases q1 with
      | cons h1 q2 =>
        cases q2
        obtain ⟨cells0, rfl, g0⟩ := typedV_agg td69 h0
        obtain ⟨a0, rfl⟩ := inv_VarDef g0
        obtain ⟨cells1, rfl, g1⟩ := typedV_agg td71 h1
        obtain ⟨a1, rfl⟩ := inv_Use g1
        exact c_law a0 a1
theorem row1 : Rows.fnExactMayUseRow.wf (OpenSpec.ofChange Rows.fnExactMayUseSpec) = true := by kernel_rfl
theorem row2 : Try.f8.params.all (Try.prog.readableRec ·) = true := by kernel_rfl
theorem row3 : namedTie Try.prog Rows.fnExactMayUseRow.named Rows.fnExactMayUseSpec.vars = true := by kernel_rfl
theorem row4 : (Rows.fnExactMayUseRow.stops == []) = true := by kernel_rfl
theorem row5 : (Rows.fnExactMayUseRow.knobs == []) = true := by kernel_rfl
theorem row6 : (Rows.fnExactMayUseRow.inPlace == Try.prog.inPlace 8) = true := by kernel_rfl
theorem row7 : (Rows.fnExactMayUseRow.unfollowed == Try.prog.unfollowed 8) = true := by kernel_rfl
theorem row8 : (Rows.fnExactMayUseRow.recurses == Try.prog.recurses 8) = true := by kernel_rfl
theorem row9 : (Rows.fnExactMayUseRow.named == Try.prog.varsNamed 8) = true := by kernel_rfl
theorem row10 : (Rows.fnExactMayUseRow.maps == (Try.f8.params.toList ++ Rows.fnExactMayUseSpec.plain.varTypes Try.prog).any (Try.prog.mapsRec ·)) = true := by kernel_rfl
theorem row11 : (Rows.fnExactMayUseRow.ifaces == (Try.f8.params.toList ++ Rows.fnExactMayUseSpec.plain.varTypes Try.prog).any (Try.prog.ifacesRec ·)) = true := by kernel_rfl
theorem row12 : (Rows.fnExactMayUseRow.mapsOut == Try.prog.mapsAmong Try.f8.resultTypes.toList) = true := by kernel_rfl
theorem row13 : (Rows.fnExactMayUseRow.loops == (Try.f8.params.toList ++ Rows.fnExactMayUseSpec.plain.varTypes Try.prog).any (Try.prog.loopsFrom ·)) = true := by kernel_rfl
theorem row14 : (Rows.fnExactMayUseRow.wideKeys == (Try.f8.params.toList ++ Rows.fnExactMayUseSpec.plain.varTypes Try.prog ++ Try.f8.resultTypes.toList).any (Try.prog.wideKeysFrom ·)) = true := by kernel_rfl
theorem row15 : Rows.fnExactMayUseSpec.vars.all (Try.prog.varReadable ·) = true := by kernel_rfl
theorem row16 : Try.f8.resultTypes.all (fun t => Try.prog.readableRec t && decide (t < Try.prog.types.size)) = true := by kernel_rfl
theorem row17 : (Rows.fnExactMayUseRow.ifacesOut == Try.f8.resultTypes.toList.any (Try.prog.ifacesRec ·)) = true := by kernel_rfl
theorem row18 : (Rows.fnExactMayUseRow.loopsOut == Try.f8.resultTypes.toList.any (Try.prog.loopsFrom ·)) = true := by kernel_rfl
theorem row19 : Rows.fnExactMayUseRow.shortTexts.isNone = true := by kernel_rfl
theorem row20 : (Rows.fnExactMayUseRow.kinds == (if Rows.fnExactMayUseRow.domain.isEmpty then [] else Try.f8.params.toList.map fun t => match Try.prog.underlying t with | some (.int k) => some k | _ => none)) = true := by kernel_rfl
theorem row21 : (Rows.fnExactMayUseRow.pinned == Rows.fnExactMayUseRow.pinnedBy) = true := by kernel_rfl
theorem row22 : (Rows.fnExactMayUseRow.veiled == (Try.f8.params.toList ++ Rows.fnExactMayUseSpec.plain.varTypes Try.prog ++ Try.f8.resultTypes.toList).any (Try.prog.veiledRec ·)) = true := by kernel_rfl
theorem row23 : Rows.fnExactMayUseRow.veiledFits Try.prog Try.f8.params.toList (Try.f8.params.toList ++ Rows.fnExactMayUseSpec.plain.varTypes Try.prog ++ Try.f8.resultTypes.toList) = true := by kernel_rfl
set_option maxRecDepth 100000 in
theorem over : Rows.fnExactMayUseRow.holds Try.pinned (OpenSpec.ofChange Rows.fnExactMayUseSpec) :=
  OpenClaim.holds_of_wide 8 Try.f8 rfl rfl rfl rfl rfl rfl rfl ⟨rfl, rfl, rfl, rfl, rfl⟩ rfl rfl rfl rfl rfl (by kernel_rfl) Try.func8 (joined_of shr_laid shr_maps shr_stops shr_knobs shr_plain shr_heard shr_enter shr_lifted shr_make row1 row2 row3 row4 row5 row6 row7 row8 row9 row10 row11 row12 row13 row14 row15 row16 row17 row18 row19 row20 row21 row22 row23)
    (of_decide_eq_true (by kernel_rfl)) (by unfold Func.isWrapper; first | (rw [if_pos (by decide +kernel)]; kernel_rfl) | (rw [if_neg (by decide +kernel)]; exact ⟨rfl, rfl⟩))
    (fun os started H enc _ => lifted os started H enc)
end Go.Proofs.Ytcgkcbmhjbbjmaa.Abs
namespace Go.Proofs.Ytcgkcbmhjbbjmaa
/-- The row, under a short name, for the claim. -/
theorem fnExactMayUse_holds : Rows.FnExactMayUseSaid := Abs.over
#print axioms fnExactMayUse_holds
end Go.Proofs.Ytcgkcbmhjbbjmaa
