/- FnExactNameChanges: the row: whatever its arguments, the law returns true, and they read as they did. No condition. -/
import Derived.Test.YtcgkcbmhjbbjmaaLNameChanges
import Derived.Test.YtcgkcbmhjbbjmaaShr
set_option linter.unusedVariables false
namespace Go.Proofs.Ytcgkcbmhjbbjmaa.Abs
open Go
set_option maxRecDepth 100000 in
theorem lifted (os : Os) (started : os.Started) (H : Type) (enc : TypeId × Value → H) :
    ReturnsInHanded {} Try.checked os 3 .any (Rows.fnExactNameChangesSpec.pre6 enc Try.prog Try.f3 Rows.fnExactNameChangesRow.domain false) (Rows.fnExactNameChangesSpec.post enc Try.prog Try.f3 false true false false) := by
  refine law_returns (C := Try.checked) [9, 22, 3] own started (by kernel_rfl) Try.func3
    (ChangeSpec.witness6 (enc := enc) (C := Try.checked) false ⟨#[], #[.string ⟨#[]⟩, .slice none 0 0, .slice none 0 0, .int .i64 0, .int .i64 0], []⟩ 8 (by kernel_rfl) (by kernel_rfl) (by kernel_rfl) (by kernel_rfl))
    rfl rfl (fun ds hds => ?_) rfl Try.underlying4 (by kernel_rfl) (by kernel_rfl) (by kernel_rfl) (fun args h => ?_)
  · have hds : ds.length = 5 := hds
    match ds, hds with
    | [d0, d1, d2, d3, d4], _ => rfl
  · replace h : TypedVs Try.prog [9, 22, 22, 3, 3] args := h
    cases h with
    | cons h0 q1 =>
      cases q1 with
      | cons h1 q2 =>
        cases q2 with
        | cons h2 q3 =>
          cases q3 with
          | cons h3 q4 =>
            cases q4 with
            | cons h4 q5 =>
              cases q5
              have g0 := typedV_one (by rw [td9]; simp) h0
              obtain ⟨a0, e0, hz0⟩ := typed_str td9 g0
              cases e0
              have g1 := typedV_one (by rw [td22]; simp) h1
              obtain ⟨a1, e1⟩ := inv_StrS g1
              cases e1
              have g2 := typedV_one (by rw [td22]; simp) h2
              obtain ⟨a2, e2⟩ := inv_StrS g2
              cases e2
              have g3 := typedV_one (by rw [td3]; simp) h3
              obtain ⟨a3, e3, hz3⟩ := typed_int td3 g3
              cases e3
              have g4 := typedV_one (by rw [td3]; simp) h4
              obtain ⟨a4, e4, hz4⟩ := typed_int td3 g4
              cases e4
              exact c_law a0 a1 a2 a3 a4
theorem row1 : Rows.fnExactNameChangesRow.wf (OpenSpec.ofChange Rows.fnExactNameChangesSpec) = true := by kernel_rfl
theorem row2 : Try.f3.params.all (Try.prog.readableRec ·) = true := by kernel_rfl
theorem row3 : namedTie Try.prog Rows.fnExactNameChangesRow.named Rows.fnExactNameChangesSpec.vars = true := by kernel_rfl
theorem row4 : (Rows.fnExactNameChangesRow.stops == []) = true := by kernel_rfl
theorem row5 : (Rows.fnExactNameChangesRow.knobs == []) = true := by kernel_rfl
theorem row6 : (Rows.fnExactNameChangesRow.inPlace == Try.prog.inPlace 3) = true := by kernel_rfl
theorem row7 : (Rows.fnExactNameChangesRow.unfollowed == Try.prog.unfollowed 3) = true := by kernel_rfl
theorem row8 : (Rows.fnExactNameChangesRow.recurses == Try.prog.recurses 3) = true := by kernel_rfl
theorem row9 : (Rows.fnExactNameChangesRow.named == Try.prog.varsNamed 3) = true := by kernel_rfl
theorem row10 : (Rows.fnExactNameChangesRow.maps == (Try.f3.params.toList ++ Rows.fnExactNameChangesSpec.plain.varTypes Try.prog).any (Try.prog.mapsRec ·)) = true := by kernel_rfl
theorem row11 : (Rows.fnExactNameChangesRow.ifaces == (Try.f3.params.toList ++ Rows.fnExactNameChangesSpec.plain.varTypes Try.prog).any (Try.prog.ifacesRec ·)) = true := by kernel_rfl
theorem row12 : (Rows.fnExactNameChangesRow.mapsOut == Try.prog.mapsAmong Try.f3.resultTypes.toList) = true := by kernel_rfl
theorem row13 : (Rows.fnExactNameChangesRow.loops == (Try.f3.params.toList ++ Rows.fnExactNameChangesSpec.plain.varTypes Try.prog).any (Try.prog.loopsFrom ·)) = true := by kernel_rfl
theorem row14 : (Rows.fnExactNameChangesRow.wideKeys == (Try.f3.params.toList ++ Rows.fnExactNameChangesSpec.plain.varTypes Try.prog ++ Try.f3.resultTypes.toList).any (Try.prog.wideKeysFrom ·)) = true := by kernel_rfl
theorem row15 : Rows.fnExactNameChangesSpec.vars.all (Try.prog.varReadable ·) = true := by kernel_rfl
theorem row16 : Try.f3.resultTypes.all (fun t => Try.prog.readableRec t && decide (t < Try.prog.types.size)) = true := by kernel_rfl
theorem row17 : (Rows.fnExactNameChangesRow.ifacesOut == Try.f3.resultTypes.toList.any (Try.prog.ifacesRec ·)) = true := by kernel_rfl
theorem row18 : (Rows.fnExactNameChangesRow.loopsOut == Try.f3.resultTypes.toList.any (Try.prog.loopsFrom ·)) = true := by kernel_rfl
theorem row19 : Rows.fnExactNameChangesRow.shortTexts.isNone = true := by kernel_rfl
theorem row20 : (Rows.fnExactNameChangesRow.kinds == (if Rows.fnExactNameChangesRow.domain.isEmpty then [] else Try.f3.params.toList.map fun t => match Try.prog.underlying t with | some (.int k) => some k | _ => none)) = true := by kernel_rfl
theorem row21 : (Rows.fnExactNameChangesRow.pinned == Rows.fnExactNameChangesRow.pinnedBy) = true := by kernel_rfl
theorem row22 : (Rows.fnExactNameChangesRow.veiled == (Try.f3.params.toList ++ Rows.fnExactNameChangesSpec.plain.varTypes Try.prog ++ Try.f3.resultTypes.toList).any (Try.prog.veiledRec ·)) = true := by kernel_rfl
theorem row23 : Rows.fnExactNameChangesRow.veiledFits Try.prog Try.f3.params.toList (Try.f3.params.toList ++ Rows.fnExactNameChangesSpec.plain.varTypes Try.prog ++ Try.f3.resultTypes.toList) = true := by kernel_rfl
set_option maxRecDepth 100000 in
theorem over : Rows.fnExactNameChangesRow.holds Try.pinned (OpenSpec.ofChange Rows.fnExactNameChangesSpec) :=
  OpenClaim.holds_of_wide 3 Try.f3 rfl rfl rfl rfl rfl rfl rfl ⟨rfl, rfl, rfl, rfl, rfl⟩ rfl rfl rfl rfl rfl (by kernel_rfl) Try.func3 (joined_of shr_laid shr_maps shr_stops shr_knobs shr_plain shr_heard shr_enter shr_lifted shr_make row1 row2 row3 row4 row5 row6 row7 row8 row9 row10 row11 row12 row13 row14 row15 row16 row17 row18 row19 row20 row21 row22 row23)
    (of_decide_eq_true (by kernel_rfl)) (by unfold Func.isWrapper; first | (rw [if_pos (by decide +kernel)]; kernel_rfl) | (rw [if_neg (by decide +kernel)]; exact ⟨rfl, rfl⟩))
    (fun os started H enc _ => lifted os started H enc)
end Go.Proofs.Ytcgkcbmhjbbjmaa.Abs
namespace Go.Proofs.Ytcgkcbmhjbbjmaa
/-- The row, under a short name, for the claim. -/
theorem fnExactNameChanges_holds : Rows.FnExactNameChangesSaid := Abs.over
#print axioms fnExactNameChanges_holds
end Go.Proofs.Ytcgkcbmhjbbjmaa
