/- FnExactReachOf: the row: whatever its arguments, the law returns true, and they read as they did. No condition. -/
import Derived.Test.YtkpdlbidadcdjaaLReachOf
import Derived.Test.YtkpdlbidadcdjaaShr
set_option linter.unusedVariables false
namespace Go.Proofs.Ytkpdlbidadcdjaa.Abs
open Go
set_option maxRecDepth 100000 in
theorem lifted (os : Os) (started : os.Started) (H : Type) (enc : TypeId × Value → H) :
    ReturnsInHanded {} Try.checked os 3 .any (Rows.fnExactReachOfSpec.pre6 enc Try.prog Try.f3 Rows.fnExactReachOfRow.domain false) (Rows.fnExactReachOfSpec.post enc Try.prog Try.f3 false true false false) := by
  refine law_returns (C := Try.checked) [22, 42, 9, 40, 91, 44, 97, 95, 3, 93, 26, 23, 46] own started (by kernel_rfl) Try.func3
    (ChangeSpec.witness6 (enc := enc) (C := Try.checked) false ⟨#[], #[.slice none 0 0, .slice none 0 0], []⟩ 8 (by kernel_rfl) (by kernel_rfl) (by kernel_rfl) (by kernel_rfl))
    rfl rfl (fun ds hds => ?_) rfl Try.underlying4 (by kernel_rfl) (by kernel_rfl) (by kernel_rfl) (fun args h => ?_)
  · have hds : ds.length = 2 := hds
    match ds, hds with
    | [d0, d1], _ => rfl
  · replace h : TypedVs Try.prog [22, 23] args := h
    cases h with
    | cons h0 q1 =>
      cases q1 with
      | cons h1 q2 =>
        cases q2
        have g0 := typedV_one (by rw [td22]; simp) h0
        obtain ⟨a0, e0⟩ := inv_FragS g0
        cases e0
        have g1 := typedV_one (by rw [td23]; simp) h1
        obtain ⟨a1, e1⟩ := inv_SelS g1
        cases e1
        exact c_law a0 a1
theorem row1 : Rows.fnExactReachOfRow.wf (OpenSpec.ofChange Rows.fnExactReachOfSpec) = true := by kernel_rfl
theorem row2 : Try.f3.params.all (Try.prog.readableRec ·) = true := by kernel_rfl
theorem row3 : namedTie Try.prog Rows.fnExactReachOfRow.named Rows.fnExactReachOfSpec.vars = true := by kernel_rfl
theorem row4 : (Rows.fnExactReachOfRow.stops == []) = true := by kernel_rfl
theorem row5 : (Rows.fnExactReachOfRow.knobs == []) = true := by kernel_rfl
theorem row6 : (Rows.fnExactReachOfRow.inPlace == Try.prog.inPlace 3) = true := by kernel_rfl
theorem row7 : (Rows.fnExactReachOfRow.unfollowed == Try.prog.unfollowed 3) = true := by kernel_rfl
theorem row8 : (Rows.fnExactReachOfRow.recurses == Try.prog.recurses 3) = true := by kernel_rfl
theorem row9 : (Rows.fnExactReachOfRow.named == Try.prog.varsNamed 3) = true := by kernel_rfl
theorem row10 : (Rows.fnExactReachOfRow.maps == (Try.f3.params.toList ++ Rows.fnExactReachOfSpec.plain.varTypes Try.prog).any (Try.prog.mapsRec ·)) = true := by kernel_rfl
theorem row11 : (Rows.fnExactReachOfRow.ifaces == (Try.f3.params.toList ++ Rows.fnExactReachOfSpec.plain.varTypes Try.prog).any (Try.prog.ifacesRec ·)) = true := by kernel_rfl
theorem row12 : (Rows.fnExactReachOfRow.mapsOut == Try.prog.mapsAmong Try.f3.resultTypes.toList) = true := by kernel_rfl
theorem row13 : (Rows.fnExactReachOfRow.loops == (Try.f3.params.toList ++ Rows.fnExactReachOfSpec.plain.varTypes Try.prog).any (Try.prog.loopsFrom ·)) = true := by kernel_rfl
theorem row14 : (Rows.fnExactReachOfRow.wideKeys == (Try.f3.params.toList ++ Rows.fnExactReachOfSpec.plain.varTypes Try.prog ++ Try.f3.resultTypes.toList).any (Try.prog.wideKeysFrom ·)) = true := by kernel_rfl
theorem row15 : Rows.fnExactReachOfSpec.vars.all (Try.prog.varReadable ·) = true := by kernel_rfl
theorem row16 : Try.f3.resultTypes.all (fun t => Try.prog.readableRec t && decide (t < Try.prog.types.size)) = true := by kernel_rfl
theorem row17 : (Rows.fnExactReachOfRow.ifacesOut == Try.f3.resultTypes.toList.any (Try.prog.ifacesRec ·)) = true := by kernel_rfl
theorem row18 : (Rows.fnExactReachOfRow.loopsOut == Try.f3.resultTypes.toList.any (Try.prog.loopsFrom ·)) = true := by kernel_rfl
theorem row19 : Rows.fnExactReachOfRow.shortTexts.isNone = true := by kernel_rfl
theorem row20 : (Rows.fnExactReachOfRow.kinds == (if Rows.fnExactReachOfRow.domain.isEmpty then [] else Try.f3.params.toList.map fun t => match Try.prog.underlying t with | some (.int k) => some k | _ => none)) = true := by kernel_rfl
theorem row21 : (Rows.fnExactReachOfRow.pinned == Rows.fnExactReachOfRow.pinnedBy) = true := by kernel_rfl
theorem row22 : (Rows.fnExactReachOfRow.veiled == (Try.f3.params.toList ++ Rows.fnExactReachOfSpec.plain.varTypes Try.prog ++ Try.f3.resultTypes.toList).any (Try.prog.veiledRec ·)) = true := by kernel_rfl
theorem row23 : Rows.fnExactReachOfRow.veiledFits Try.prog Try.f3.params.toList (Try.f3.params.toList ++ Rows.fnExactReachOfSpec.plain.varTypes Try.prog ++ Try.f3.resultTypes.toList) = true := by kernel_rfl
set_option maxRecDepth 100000 in
theorem over : Rows.fnExactReachOfRow.holds Try.pinned (OpenSpec.ofChange Rows.fnExactReachOfSpec) :=
  OpenClaim.holds_of_wide 3 Try.f3 rfl rfl rfl rfl rfl rfl rfl ⟨rfl, rfl, rfl, rfl, rfl⟩ rfl rfl rfl rfl rfl (by kernel_rfl) Try.func3 (joined_of shr_laid shr_maps shr_stops shr_knobs shr_plain shr_heard shr_enter shr_lifted shr_make row1 row2 row3 row4 row5 row6 row7 row8 row9 row10 row11 row12 row13 row14 row15 row16 row17 row18 row19 row20 row21 row22 row23)
    (of_decide_eq_true (by kernel_rfl)) (by unfold Func.isWrapper; first | (rw [if_pos (by decide +kernel)]; kernel_rfl) | (rw [if_neg (by decide +kernel)]; exact ⟨rfl, rfl⟩))
    (fun os started H enc _ => lifted os started H enc)
end Go.Proofs.Ytkpdlbidadcdjaa.Abs
namespace Go.Proofs.Ytkpdlbidadcdjaa
/-- The row, under a short name, for the claim. -/
theorem fnExactReachOf_holds : Rows.FnExactReachOfSaid := Abs.over
#print axioms fnExactReachOf_holds
end Go.Proofs.Ytkpdlbidadcdjaa
