/- FnExactSameShape: the row: whatever its arguments, the law returns true, and they read as they did. No condition. -/
import Derived.Test.YtcgkcbmhjbbjmaaLSameShape
import Derived.Test.YtcgkcbmhjbbjmaaShr
set_option linter.unusedVariables false
namespace Go.Proofs.Ytcgkcbmhjbbjmaa.Abs
open Go
set_option maxRecDepth 100000 in
theorem lifted (os : Os) (started : os.Started) (H : Type) (enc : TypeId × Value → H) :
    ReturnsInHanded {} Try.checked os 10 .any (Rows.fnExactSameShapeSpec.pre6 enc Try.prog Try.f10 Rows.fnExactSameShapeRow.domain false) (Rows.fnExactSameShapeSpec.post enc Try.prog Try.f10 false true false false) := by
  refine law_returns (C := Try.checked) [96, 93, 200, 3, 4, 9, 22, 196, 248, 197, 251, 64, 67, 65, 31, 133, 39, 142, 198, 254, 94, 203] own started (by kernel_rfl) Try.func10
    (ChangeSpec.witness6 (enc := enc) (C := Try.checked) false ⟨#[], #[.agg #[.slice none 0 0, .slice none 0 0, .slice none 0 0], .agg #[.string ⟨#[]⟩, .string ⟨#[]⟩], .agg #[.string ⟨#[]⟩, .string ⟨#[]⟩]], []⟩ 8 (by kernel_rfl) (by kernel_rfl) (by kernel_rfl) (by kernel_rfl))
    rfl rfl (fun ds hds => ?_) rfl Try.underlying4 (by kernel_rfl) (by kernel_rfl) (by kernel_rfl) (fun args h => ?_)
  · have hds : ds.length = 3 := hds
    match ds, hds with
    | [d0, d1, d2], _ => rfl
  · replace h : TypedVs Try.prog [96, 64, 64] args := h
    cases h with
    | cons h0 q1 =>
      cases q1 with
      | cons h1 q2 =>
        cases q2 with
        | cons h2 q3 =>
          cases q3
          obtain ⟨cells0, rfl, g0⟩ := typedV_agg td96 h0
          obtain ⟨a0, rfl⟩ := inv_Schema g0
          obtain ⟨cells1, rfl, g1⟩ := typedV_agg td64 h1
          obtain ⟨a1, rfl⟩ := inv_Type g1
          obtain ⟨cells2, rfl, g2⟩ := typedV_agg td64 h2
          obtain ⟨a2, rfl⟩ := inv_Type g2
          exact c_law a0 a1 a2
theorem row1 : Rows.fnExactSameShapeRow.wf (OpenSpec.ofChange Rows.fnExactSameShapeSpec) = true := by kernel_rfl
theorem row2 : Try.f10.params.all (Try.prog.readableRec ·) = true := by kernel_rfl
theorem row3 : namedTie Try.prog Rows.fnExactSameShapeRow.named Rows.fnExactSameShapeSpec.vars = true := by kernel_rfl
theorem row4 : (Rows.fnExactSameShapeRow.stops == []) = true := by kernel_rfl
theorem row5 : (Rows.fnExactSameShapeRow.knobs == []) = true := by kernel_rfl
theorem row6 : (Rows.fnExactSameShapeRow.inPlace == Try.prog.inPlace 10) = true := by kernel_rfl
theorem row7 : (Rows.fnExactSameShapeRow.unfollowed == Try.prog.unfollowed 10) = true := by kernel_rfl
theorem row8 : (Rows.fnExactSameShapeRow.recurses == Try.prog.recurses 10) = true := by kernel_rfl
theorem row9 : (Rows.fnExactSameShapeRow.named == Try.prog.varsNamed 10) = true := by kernel_rfl
theorem row10 : (Rows.fnExactSameShapeRow.maps == (Try.f10.params.toList ++ Rows.fnExactSameShapeSpec.plain.varTypes Try.prog).any (Try.prog.mapsRec ·)) = true := by kernel_rfl
theorem row11 : (Rows.fnExactSameShapeRow.ifaces == (Try.f10.params.toList ++ Rows.fnExactSameShapeSpec.plain.varTypes Try.prog).any (Try.prog.ifacesRec ·)) = true := by kernel_rfl
theorem row12 : (Rows.fnExactSameShapeRow.mapsOut == Try.prog.mapsAmong Try.f10.resultTypes.toList) = true := by kernel_rfl
theorem row13 : (Rows.fnExactSameShapeRow.loops == (Try.f10.params.toList ++ Rows.fnExactSameShapeSpec.plain.varTypes Try.prog).any (Try.prog.loopsFrom ·)) = true := by kernel_rfl
theorem row14 : (Rows.fnExactSameShapeRow.wideKeys == (Try.f10.params.toList ++ Rows.fnExactSameShapeSpec.plain.varTypes Try.prog ++ Try.f10.resultTypes.toList).any (Try.prog.wideKeysFrom ·)) = true := by kernel_rfl
theorem row15 : Rows.fnExactSameShapeSpec.vars.all (Try.prog.varReadable ·) = true := by kernel_rfl
theorem row16 : Try.f10.resultTypes.all (fun t => Try.prog.readableRec t && decide (t < Try.prog.types.size)) = true := by kernel_rfl
theorem row17 : (Rows.fnExactSameShapeRow.ifacesOut == Try.f10.resultTypes.toList.any (Try.prog.ifacesRec ·)) = true := by kernel_rfl
theorem row18 : (Rows.fnExactSameShapeRow.loopsOut == Try.f10.resultTypes.toList.any (Try.prog.loopsFrom ·)) = true := by kernel_rfl
theorem row19 : Rows.fnExactSameShapeRow.shortTexts.isNone = true := by kernel_rfl
theorem row20 : (Rows.fnExactSameShapeRow.kinds == (if Rows.fnExactSameShapeRow.domain.isEmpty then [] else Try.f10.params.toList.map fun t => match Try.prog.underlying t with | some (.int k) => some k | _ => none)) = true := by kernel_rfl
theorem row21 : (Rows.fnExactSameShapeRow.pinned == Rows.fnExactSameShapeRow.pinnedBy) = true := by kernel_rfl
theorem row22 : (Rows.fnExactSameShapeRow.veiled == (Try.f10.params.toList ++ Rows.fnExactSameShapeSpec.plain.varTypes Try.prog ++ Try.f10.resultTypes.toList).any (Try.prog.veiledRec ·)) = true := by kernel_rfl
theorem row23 : Rows.fnExactSameShapeRow.veiledFits Try.prog Try.f10.params.toList (Try.f10.params.toList ++ Rows.fnExactSameShapeSpec.plain.varTypes Try.prog ++ Try.f10.resultTypes.toList) = true := by kernel_rfl
set_option maxRecDepth 100000 in
theorem over : Rows.fnExactSameShapeRow.holds Try.pinned (OpenSpec.ofChange Rows.fnExactSameShapeSpec) :=
  OpenClaim.holds_of_wide 10 Try.f10 rfl rfl rfl rfl rfl rfl rfl ⟨rfl, rfl, rfl, rfl, rfl⟩ rfl rfl rfl rfl rfl (by kernel_rfl) Try.func10 (joined_of shr_laid shr_maps shr_stops shr_knobs shr_plain shr_heard shr_enter shr_lifted shr_make row1 row2 row3 row4 row5 row6 row7 row8 row9 row10 row11 row12 row13 row14 row15 row16 row17 row18 row19 row20 row21 row22 row23)
    (of_decide_eq_true (by kernel_rfl)) (by unfold Func.isWrapper; first | (rw [if_pos (by decide +kernel)]; kernel_rfl) | (rw [if_neg (by decide +kernel)]; exact ⟨rfl, rfl⟩))
    (fun os started H enc _ => lifted os started H enc)
end Go.Proofs.Ytcgkcbmhjbbjmaa.Abs
namespace Go.Proofs.Ytcgkcbmhjbbjmaa
/-- The row, under a short name, for the claim. -/
theorem fnExactSameShape_holds : Rows.FnExactSameShapeSaid := Abs.over
#print axioms fnExactSameShape_holds
end Go.Proofs.Ytcgkcbmhjbbjmaa
