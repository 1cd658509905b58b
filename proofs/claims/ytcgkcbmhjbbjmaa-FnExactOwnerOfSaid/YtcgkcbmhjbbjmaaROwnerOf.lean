/- FnExactOwnerOf: the row: whatever its arguments, the law returns true, and they read as they did. No condition. -/
import Derived.Test.YtcgkcbmhjbbjmaaLOwnerOf
import Derived.Test.YtcgkcbmhjbbjmaaShr
set_option linter.unusedVariables false
namespace Go.Proofs.Ytcgkcbmhjbbjmaa.Abs
open Go
set_option maxRecDepth 100000 in
theorem lifted (os : Os) (started : os.Started) (H : Type) (enc : TypeId × Value → H) :
    ReturnsInHanded {} Try.checked os 11 .any (Rows.fnExactOwnerOfSpec.pre6 enc Try.prog Try.f11 Rows.fnExactOwnerOfRow.domain false) (Rows.fnExactOwnerOfSpec.post enc Try.prog Try.f11 false true false false) := by
  refine law_returns (C := Try.checked) [96, 93, 200, 3, 4, 9, 22, 196, 248, 197, 251, 64, 67, 65, 31, 133, 39, 142, 198, 254, 94, 203, 110, 108, 69, 45, 47] own started (by kernel_rfl) Try.func11
    (ChangeSpec.witness6 (enc := enc) (C := Try.checked) false ⟨#[], #[.agg #[.slice none 0 0, .slice none 0 0, .slice none 0 0], .agg #[.int .i64 0, .string ⟨#[]⟩, .slice none 0 0, .slice none 0 0, .slice none 0 0]], []⟩ 8 (by kernel_rfl) (by kernel_rfl) (by kernel_rfl) (by kernel_rfl))
    rfl rfl (fun ds hds => ?_) rfl Try.underlying4 (by kernel_rfl) (by kernel_rfl) (by kernel_rfl) (fun args h => ?_)
  · have hds : ds.length = 2 := hds
    match ds, hds with
    | [d0, d1], _ => rfl
  · replace h : TypedVs Try.prog [96, 110] args := h
    cases h with
    | cons h0 q1 =>
      cases q1 with
      | cons h1 q2 =>
        cases q2
        obtain ⟨cells0, rfl, g0⟩ := typedV_agg td96 h0
        obtain ⟨a0, rfl⟩ := inv_Schema g0
        obtain ⟨cells1, rfl, g1⟩ := typedV_agg td110 h1
        obtain ⟨a1, rfl⟩ := inv_Op g1
        exact c_law a0 a1
theorem row1 : Rows.fnExactOwnerOfRow.wf (OpenSpec.ofChange Rows.fnExactOwnerOfSpec) = true := by kernel_rfl
theorem row2 : Try.f11.params.all (Try.prog.readableRec ·) = true := by kernel_rfl
theorem row3 : namedTie Try.prog Rows.fnExactOwnerOfRow.named Rows.fnExactOwnerOfSpec.vars = true := by kernel_rfl
theorem row4 : (Rows.fnExactOwnerOfRow.stops == []) = true := by kernel_rfl
theorem row5 : (Rows.fnExactOwnerOfRow.knobs == []) = true := by kernel_rfl
theorem row6 : (Rows.fnExactOwnerOfRow.inPlace == Try.prog.inPlace 11) = true := by kernel_rfl
theorem row7 : (Rows.fnExactOwnerOfRow.unfollowed == Try.prog.unfollowed 11) = true := by kernel_rfl
theorem row8 : (Rows.fnExactOwnerOfRow.recurses == Try.prog.recurses 11) = true := by kernel_rfl
theorem row9 : (Rows.fnExactOwnerOfRow.named == Try.prog.varsNamed 11) = true := by kernel_rfl
theorem row10 : (Rows.fnExactOwnerOfRow.maps == (Try.f11.params.toList ++ Rows.fnExactOwnerOfSpec.plain.varTypes Try.prog).any (Try.prog.mapsRec ·)) = true := by kernel_rfl
theorem row11 : (Rows.fnExactOwnerOfRow.ifaces == (Try.f11.params.toList ++ Rows.fnExactOwnerOfSpec.plain.varTypes Try.prog).any (Try.prog.ifacesRec ·)) = true := by kernel_rfl
theorem row12 : (Rows.fnExactOwnerOfRow.mapsOut == Try.prog.mapsAmong Try.f11.resultTypes.toList) = true := by kernel_rfl
theorem row13 : (Rows.fnExactOwnerOfRow.loops == (Try.f11.params.toList ++ Rows.fnExactOwnerOfSpec.plain.varTypes Try.prog).any (Try.prog.loopsFrom ·)) = true := by kernel_rfl
theorem row14 : (Rows.fnExactOwnerOfRow.wideKeys == (Try.f11.params.toList ++ Rows.fnExactOwnerOfSpec.plain.varTypes Try.prog ++ Try.f11.resultTypes.toList).any (Try.prog.wideKeysFrom ·)) = true := by kernel_rfl
theorem row15 : Rows.fnExactOwnerOfSpec.vars.all (Try.prog.varReadable ·) = true := by kernel_rfl
theorem row16 : Try.f11.resultTypes.all (fun t => Try.prog.readableRec t && decide (t < Try.prog.types.size)) = true := by kernel_rfl
theorem row17 : (Rows.fnExactOwnerOfRow.ifacesOut == Try.f11.resultTypes.toList.any (Try.prog.ifacesRec ·)) = true := by kernel_rfl
theorem row18 : (Rows.fnExactOwnerOfRow.loopsOut == Try.f11.resultTypes.toList.any (Try.prog.loopsFrom ·)) = true := by kernel_rfl
theorem row19 : Rows.fnExactOwnerOfRow.shortTexts.isNone = true := by kernel_rfl
theorem row20 : (Rows.fnExactOwnerOfRow.kinds == (if Rows.fnExactOwnerOfRow.domain.isEmpty then [] else Try.f11.params.toList.map fun t => match Try.prog.underlying t with | some (.int k) => some k | _ => none)) = true := by kernel_rfl
theorem row21 : (Rows.fnExactOwnerOfRow.pinned == Rows.fnExactOwnerOfRow.pinnedBy) = true := by kernel_rfl
theorem row22 : (Rows.fnExactOwnerOfRow.veiled == (Try.f11.params.toList ++ Rows.fnExactOwnerOfSpec.plain.varTypes Try.prog ++ Try.f11.resultTypes.toList).any (Try.prog.veiledRec ·)) = true := by kernel_rfl
theorem row23 : Rows.fnExactOwnerOfRow.veiledFits Try.prog Try.f11.params.toList (Try.f11.params.toList ++ Rows.fnExactOwnerOfSpec.plain.varTypes Try.prog ++ Try.f11.resultTypes.toList) = true := by kernel_rfl
set_option maxRecDepth 100000 in
theorem over : Rows.fnExactOwnerOfRow.holds Try.pinned (OpenSpec.ofChange Rows.fnExactOwnerOfSpec) :=
  OpenClaim.holds_of_wide 11 Try.f11 rfl rfl rfl rfl rfl rfl rfl ⟨rfl, rfl, rfl, rfl, rfl⟩ rfl rfl rfl rfl rfl (by kernel_rfl) Try.func11 (joined_of shr_laid shr_maps shr_stops shr_knobs shr_plain shr_heard shr_enter shr_lifted shr_make row1 row2 row3 row4 row5 row6 row7 row8 row9 row10 row11 row12 row13 row14 row15 row16 row17 row18 row19 row20 row21 row22 row23)
    (of_decide_eq_true (by kernel_rfl)) (by unfold Func.isWrapper; first | (rw [if_pos (by decide +kernel)]; kernel_rfl) | (rw [if_neg (by decide +kernel)]; exact ⟨rfl, rfl⟩))
    (fun os started H enc _ => lifted os started H enc)
end Go.Proofs.Ytcgkcbmhjbbjmaa.Abs
namespace Go.Proofs.Ytcgkcbmhjbbjmaa
/-- The row, under a short name, for the claim. -/
theorem fnExactOwnerOf_holds : Rows.FnExactOwnerOfSaid := Abs.over
#print axioms fnExactOwnerOf_holds
end Go.Proofs.Ytcgkcbmhjbbjmaa
