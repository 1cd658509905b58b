/- FnExactSameGiven: the row: whatever its arguments, the law returns true, and they read as they did. No condition. -/
import Derived.Test.YtcgkcbmhjbbjmaaLSameGiven
import Derived.Test.YtcgkcbmhjbbjmaaShr
set_option linter.unusedVariables false
namespace Go.Proofs.Ytcgkcbmhjbbjmaa.Abs
open Go
set_option maxRecDepth 100000 in
theorem lifted (os : Os) (started : os.Started) (H : Type) (enc : TypeId × Value → H) :
    ReturnsInHanded {} Try.checked os 5 .any (Rows.fnExactSameGivenSpec.pre6 enc Try.prog Try.f5 Rows.fnExactSameGivenRow.domain false) (Rows.fnExactSameGivenSpec.post enc Try.prog Try.f5 false true false false) := by
  refine law_returns (C := Try.checked) [39, 142, 9, 67, 3, 65, 22] own started (by kernel_rfl) Try.func5
    (ChangeSpec.witness6 (enc := enc) (C := Try.checked) false ⟨#[], #[.slice none 0 0, .slice none 0 0], []⟩ 8 (by kernel_rfl) (by kernel_rfl) (by kernel_rfl) (by kernel_rfl))
    rfl rfl (fun ds hds => ?_) rfl Try.underlying4 (by kernel_rfl) (by kernel_rfl) (by kernel_rfl) (fun args h => ?_)
  · have hds : ds.length = 2 := hds
    match ds, hds with
    | [d0, d1], _ => rfl
  · replace h : TypedVs Try.prog [39, 39] args := h
    cases h with
    | cons h0 q1 =>
      cases q1 with
      | cons h1 q2 =>
        cases q2
        have g0 := typedV_one (by rw [td39]; simp) h0
        obtain ⟨a0, e0⟩ := inv_ArgS g0
        cases e0
        have g1 := typedV_one (by rw [td39]; simp) h1
        obtain ⟨a1, e1⟩ := inv_ArgS g1
        cases e1
        exact c_law a0 a1
theorem row1 : Rows.fnExactSameGivenRow.wf (OpenSpec.ofChange Rows.fnExactSameGivenSpec) = true := by kernel_rfl
theorem row2 : Try.f5.params.all (Try.prog.readableRec ·) = true := by kernel_rfl
theorem row3 : namedTie Try.prog Rows.fnExactSameGivenRow.named Rows.fnExactSameGivenSpec.vars = true := by kernel_rfl
theorem row4 : (Rows.fnExactSameGivenRow.stops == []) = true := by kernel_rfl
theorem row5 : (Rows.fnExactSameGivenRow.knobs == []) = true := by kernel_rfl
theorem row6 : (Rows.fnExactSameGivenRow.inPlace == Try.prog.inPlace 5) = true := by kernel_rfl
theorem row7 : (Rows.fnExactSameGivenRow.unfollowed == Try.prog.unfollowed 5) = true := by kernel_rfl
theorem row8 : (Rows.fnExactSameGivenRow.recurses == Try.prog.recurses 5) = true := by kernel_rfl
theorem row9 : (Rows.fnExactSameGivenRow.named == Try.prog.varsNamed 5) = true := by kernel_rfl
theorem row10 : (Rows.fnExactSameGivenRow.maps == (Try.f5.params.toList ++ Rows.fnExactSameGivenSpec.plain.varTypes Try.prog).any (Try.prog.mapsRec ·)) = true := by kernel_rfl
theorem row11 : (Rows.fnExactSameGivenRow.ifaces == (Try.f5.params.toList ++ Rows.fnExactSameGivenSpec.plain.varTypes Try.prog).any (Try.prog.ifacesRec ·)) = true := by kernel_rfl
theorem row12 : (Rows.fnExactSameGivenRow.mapsOut == Try.prog.mapsAmong Try.f5.resultTypes.toList) = true := by kernel_rfl
theorem row13 : (Rows.fnExactSameGivenRow.loops == (Try.f5.params.toList ++ Rows.fnExactSameGivenSpec.plain.varTypes Try.prog).any (Try.prog.loopsFrom ·)) = true := by kernel_rfl
theorem row14 : (Rows.fnExactSameGivenRow.wideKeys == (Try.f5.params.toList ++ Rows.fnExactSameGivenSpec.plain.varTypes Try.prog ++ Try.f5.resultTypes.toList).any (Try.prog.wideKeysFrom ·)) = true := by kernel_rfl
theorem row15 : Rows.fnExactSameGivenSpec.vars.all (Try.prog.varReadable ·) = true := by kernel_rfl
theorem row16 : Try.f5.resultTypes.all (fun t => Try.prog.readableRec t && decide (t < Try.prog.types.size)) = true := by kernel_rfl
theorem row17 : (Rows.fnExactSameGivenRow.ifacesOut == Try.f5.resultTypes.toList.any (Try.prog.ifacesRec ·)) = true := by kernel_rfl
theorem row18 : (Rows.fnExactSameGivenRow.loopsOut == Try.f5.resultTypes.toList.any (Try.prog.loopsFrom ·)) = true := by kernel_rfl
theorem row19 : Rows.fnExactSameGivenRow.shortTexts.isNone = true := by kernel_rfl
theorem row20 : (Rows.fnExactSameGivenRow.kinds == (if Rows.fnExactSameGivenRow.domain.isEmpty then [] else Try.f5.params.toList.map fun t => match Try.prog.underlying t with | some (.int k) => some k | _ => none)) = true := by kernel_rfl
theorem row21 : (Rows.fnExactSameGivenRow.pinned == Rows.fnExactSameGivenRow.pinnedBy) = true := by kernel_rfl
theorem row22 : (Rows.fnExactSameGivenRow.veiled == (Try.f5.params.toList ++ Rows.fnExactSameGivenSpec.plain.varTypes Try.prog ++ Try.f5.resultTypes.toList).any (Try.prog.veiledRec ·)) = true := by kernel_rfl
theorem row23 : Rows.fnExactSameGivenRow.veiledFits Try.prog Try.f5.params.toList (Try.f5.params.toList ++ Rows.fnExactSameGivenSpec.plain.varTypes Try.prog ++ Try.f5.resultTypes.toList) = true := by kernel_rfl
set_option maxRecDepth 100000 in
theorem over : Rows.fnExactSameGivenRow.holds Try.pinned (OpenSpec.ofChange Rows.fnExactSameGivenSpec) :=
  OpenClaim.holds_of_wide 5 Try.f5 rfl rfl rfl rfl rfl rfl rfl ⟨rfl, rfl, rfl, rfl, rfl⟩ rfl rfl rfl rfl rfl (by kernel_rfl) Try.func5 (joined_of shr_laid shr_maps shr_stops shr_knobs shr_plain shr_heard shr_enter shr_lifted shr_make row1 row2 row3 row4 row5 row6 row7 row8 row9 row10 row11 row12 row13 row14 row15 row16 row17 row18 row19 row20 row21 row22 row23)
    (of_decide_eq_true (by kernel_rfl)) (by unfold Func.isWrapper; first | (rw [if_pos (by decide +kernel)]; kernel_rfl) | (rw [if_neg (by decide +kernel)]; exact ⟨rfl, rfl⟩))
    (fun os started H enc _ => lifted os started H enc)
end Go.Proofs.Ytcgkcbmhjbbjmaa.Abs
namespace Go.Proofs.Ytcgkcbmhjbbjmaa
/-- The row, under a short name, for the claim. -/
theorem fnExactSameGiven_holds : Rows.FnExactSameGivenSaid := Abs.over
#print axioms fnExactSameGiven_holds
end Go.Proofs.Ytcgkcbmhjbbjmaa
