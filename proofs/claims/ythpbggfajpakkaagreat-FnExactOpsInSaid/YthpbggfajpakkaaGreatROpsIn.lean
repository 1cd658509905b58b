/- FnExactOpsIn: the row: whatever its arguments, the law returns true, and they read as they did. No condition. -/
import Derived.Test.YthpbggfajpakkaaGreatLOpsIn
import Derived.Test.YthpbggfajpakkaaGreatShr
set_option linter.unusedVariables false
namespace Go.Proofs.YthpbggfajpakkaaGreat.Abs
open Go
set_option maxRecDepth 100000 in
theorem lifted (os : Os) (started : os.Started) (H : Type) (enc : TypeId × Value → H) :
    ReturnsInHanded {} Tryz.checked os 7 .any (Rows.fnExactOpsInSpec.pre6 enc Tryz.prog Tryz.f7 Rows.fnExactOpsInRow.domain false) (Rows.fnExactOpsInSpec.post enc Tryz.prog Tryz.f7 false true false false) := by
  refine law_returns (C := Tryz.checked) [70, 68, 218, 3, 214, 9, 212, 290, 31, 4, 29, 26, 27, 128, 252, 127, 249, 57, 130, 216, 176, 172, 267, 173, 270, 174, 273, 23, 178] own started (by kernel_rfl) Tryz.func7
    (ChangeSpec.witness6 (enc := enc) (C := Tryz.checked) false ⟨#[], #[.agg #[.slice none 0 0]], []⟩ 8 (by kernel_rfl) (by kernel_rfl) (by kernel_rfl) (by kernel_rfl))
    rfl rfl (fun ds hds => ?_) rfl Tryz.underlying4 (by kernel_rfl) (by kernel_rfl) (by kernel_rfl) (fun args h => ?_)
  · have hds : ds.length = 1 := hds
    match ds, hds with
    | [d0], _ => rfl
  · replace h : TypedVs Tryz.prog [70] args := h
    cases h with
    | cons h0 q1 =>
      cases q1
      obtain ⟨cells0, rfl, g0⟩ := typedV_agg td70 h0
      obtain ⟨a0, rfl⟩ := inv_Doc g0
      exact c_law a0
theorem row1 : Rows.fnExactOpsInRow.wf (OpenSpec.ofChange Rows.fnExactOpsInSpec) = true := by kernel_rfl
theorem row2 : Tryz.f7.params.all (Tryz.prog.readableRec ·) = true := by kernel_rfl
theorem row3 : namedTie Tryz.prog Rows.fnExactOpsInRow.named Rows.fnExactOpsInSpec.vars = true := by kernel_rfl
theorem row4 : (Rows.fnExactOpsInRow.stops == []) = true := by kernel_rfl
theorem row5 : (Rows.fnExactOpsInRow.knobs == []) = true := by kernel_rfl
theorem row6 : (Rows.fnExactOpsInRow.inPlace == Tryz.prog.inPlace 7) = true := by kernel_rfl
theorem row7 : (Rows.fnExactOpsInRow.unfollowed == Tryz.prog.unfollowed 7) = true := by kernel_rfl
theorem row8 : (Rows.fnExactOpsInRow.recurses == Tryz.prog.recurses 7) = true := by kernel_rfl
theorem row9 : (Rows.fnExactOpsInRow.named == Tryz.prog.varsNamed 7) = true := by kernel_rfl
theorem row10 : (Rows.fnExactOpsInRow.maps == (Tryz.f7.params.toList ++ Rows.fnExactOpsInSpec.plain.varTypes Tryz.prog).any (Tryz.prog.mapsRec ·)) = true := by kernel_rfl
theorem row11 : (Rows.fnExactOpsInRow.ifaces == (Tryz.f7.params.toList ++ Rows.fnExactOpsInSpec.plain.varTypes Tryz.prog).any (Tryz.prog.ifacesRec ·)) = true := by kernel_rfl
theorem row12 : (Rows.fnExactOpsInRow.mapsOut == Tryz.prog.mapsAmong Tryz.f7.resultTypes.toList) = true := by kernel_rfl
theorem row13 : (Rows.fnExactOpsInRow.loops == (Tryz.f7.params.toList ++ Rows.fnExactOpsInSpec.plain.varTypes Tryz.prog).any (Tryz.prog.loopsFrom ·)) = true := by kernel_rfl
theorem row14 : (Rows.fnExactOpsInRow.wideKeys == (Tryz.f7.params.toList ++ Rows.fnExactOpsInSpec.plain.varTypes Tryz.prog ++ Tryz.f7.resultTypes.toList).any (Tryz.prog.wideKeysFrom ·)) = true := by kernel_rfl
theorem row15 : Rows.fnExactOpsInSpec.vars.all (Tryz.prog.varReadable ·) = true := by kernel_rfl
theorem row16 : Tryz.f7.resultTypes.all (fun t => Tryz.prog.readableRec t && decide (t < Tryz.prog.types.size)) = true := by kernel_rfl
theorem row17 : (Rows.fnExactOpsInRow.ifacesOut == Tryz.f7.resultTypes.toList.any (Tryz.prog.ifacesRec ·)) = true := by kernel_rfl
theorem row18 : (Rows.fnExactOpsInRow.loopsOut == Tryz.f7.resultTypes.toList.any (Tryz.prog.loopsFrom ·)) = true := by kernel_rfl
theorem row19 : Rows.fnExactOpsInRow.shortTexts.isNone = true := by kernel_rfl
theorem row20 : (Rows.fnExactOpsInRow.kinds == (if Rows.fnExactOpsInRow.domain.isEmpty then [] else Tryz.f7.params.toList.map fun t => match Tryz.prog.underlying t with | some (.int k) => some k | _ => none)) = true := by kernel_rfl
theorem row21 : (Rows.fnExactOpsInRow.pinned == Rows.fnExactOpsInRow.pinnedBy) = true := by kernel_rfl
theorem row22 : (Rows.fnExactOpsInRow.veiled == (Tryz.f7.params.toList ++ Rows.fnExactOpsInSpec.plain.varTypes Tryz.prog ++ Tryz.f7.resultTypes.toList).any (Tryz.prog.veiledRec ·)) = true := by kernel_rfl
theorem row23 : Rows.fnExactOpsInRow.veiledFits Tryz.prog Tryz.f7.params.toList (Tryz.f7.params.toList ++ Rows.fnExactOpsInSpec.plain.varTypes Tryz.prog ++ Tryz.f7.resultTypes.toList) = true := by kernel_rfl
set_option maxRecDepth 100000 in
theorem over : Rows.fnExactOpsInRow.holds Tryz.pinned (OpenSpec.ofChange Rows.fnExactOpsInSpec) :=
  OpenClaim.holds_of_wide 7 Tryz.f7 rfl rfl rfl rfl rfl rfl rfl ⟨rfl, rfl, rfl, rfl, rfl⟩ rfl rfl rfl rfl rfl (by kernel_rfl) Tryz.func7 (joined_of shr_laid shr_maps shr_stops shr_knobs shr_plain shr_heard shr_enter shr_lifted shr_make row1 row2 row3 row4 row5 row6 row7 row8 row9 row10 row11 row12 row13 row14 row15 row16 row17 row18 row19 row20 row21 row22 row23)
    (of_decide_eq_true (by kernel_rfl)) (by unfold Func.isWrapper; first | (rw [if_pos (by decide +kernel)]; kernel_rfl) | (rw [if_neg (by decide +kernel)]; exact ⟨rfl, rfl⟩))
    (fun os started H enc _ => lifted os started H enc)
end Go.Proofs.YthpbggfajpakkaaGreat.Abs
namespace Go.Proofs.YthpbggfajpakkaaGreat
/-- The row, under a short name, for the claim. -/
theorem fnExactOpsIn_holds : Rows.FnExactOpsInSaid := Abs.over
#print axioms fnExactOpsIn_holds
end Go.Proofs.YthpbggfajpakkaaGreat
