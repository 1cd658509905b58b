/- FnExactFragsIn: the row: whatever its arguments, the law returns true, and they read as they did. No condition. -/
import Derived.Test.YthpbggfajpakkaaGreatLFragsIn
import Derived.Test.YthpbggfajpakkaaGreatShr
set_option linter.unusedVariables false
namespace Go.Proofs.YthpbggfajpakkaaGreat.Abs
open Go
set_option maxRecDepth 100000 in
theorem lifted (os : Os) (started : os.Started) (H : Type) (enc : TypeId × Value → H) :
    ReturnsInHanded {} Tryz.checked os 6 .any (Rows.fnExactFragsInSpec.pre6 enc Tryz.prog Tryz.f6 Rows.fnExactFragsInRow.domain false) (Rows.fnExactFragsInSpec.post enc Tryz.prog Tryz.f6 false true false false) := by
  refine law_returns (C := Tryz.checked) [70, 68, 218, 3, 214, 9, 212, 290, 31, 4, 29, 26, 27, 128, 252, 127, 249, 57, 130, 216, 176, 172, 267, 173, 270, 174, 273, 23, 178] own started (by kernel_rfl) Tryz.func6
    (ChangeSpec.witness6 (enc := enc) (C := Tryz.checked) false ⟨#[], #[.agg #[.slice none 0 0]], []⟩ 8 (by kernel_rfl) (by kernel_rfl) (by kernel_rfl) (by kernel_rfl))
    rfl rfl (fun ds hds => ?_) rfl Tryz.underlying4 (by kernel_rfl) (by kernel_rfl) (by kernel_rfl) (fun args h => ?_)
  · have hds : ds.length = 1 := hds
    match ds, hds with
    | [d0], _ => rfl
  · replace h : TypedVs Tryz.prog [70] args := h
    cases h with
    | cons h0 q1 =>
      cases q1
      obtain ⟨cells0, rfl, g0⟩ := typedV_agg td70 h0
      obtain ⟨a0, rfl⟩ := inv_Doc g0
      exact c_law a0
theorem row1 : Rows.fnExactFragsInRow.wf (OpenSpec.ofChange Rows.fnExactFragsInSpec) = true := by kernel_rfl
theorem row2 : Tryz.f6.params.all (Tryz.prog.readableRec ·) = true := by kernel_rfl
theorem row3 : namedTie Tryz.prog Rows.fnExactFragsInRow.named Rows.fnExactFragsInSpec.vars = true := by kernel_rfl
theorem row4 : (Rows.fnExactFragsInRow.stops == []) = true := by kernel_rfl
theorem row5 : (Rows.fnExactFragsInRow.knobs == []) = true := by kernel_rfl
theorem row6 : (Rows.fnExactFragsInRow.inPlace == Tryz.prog.inPlace 6) = true := by kernel_rfl
theorem row7 : (Rows.fnExactFragsInRow.unfollowed == Tryz.prog.unfollowed 6) = true := by kernel_rfl
theorem row8 : (Rows.fnExactFragsInRow.recurses == Tryz.prog.recurses 6) = true := by kernel_rfl
theorem row9 : (Rows.fnExactFragsInRow.named == Tryz.prog.varsNamed 6) = true := by kernel_rfl
theorem row10 : (Rows.fnExactFragsInRow.maps == (Tryz.f6.params.toList ++ Rows.fnExactFragsInSpec.plain.varTypes Tryz.prog).any (Tryz.prog.mapsRec ·)) = true := by kernel_rfl
theorem row11 : (Rows.fnExactFragsInRow.ifaces == (Tryz.f6.params.toList ++ Rows.fnExactFragsInSpec.plain.varTypes Tryz.prog).any (Tryz.prog.ifacesRec ·)) = true := by kernel_rfl
theorem row12 : (Rows.fnExactFragsInRow.mapsOut == Tryz.prog.mapsAmong Tryz.f6.resultTypes.toList) = true := by kernel_rfl
theorem row13 : (Rows.fnExactFragsInRow.loops == (Tryz.f6.params.toList ++ Rows.fnExactFragsInSpec.plain.varTypes Tryz.prog).any (Tryz.prog.loopsFrom ·)) = true := by kernel_rfl
theorem row14 : (Rows.fnExactFragsInRow.wideKeys == (Tryz.f6.params.toList ++ Rows.fnExactFragsInSpec.plain.varTypes Tryz.prog ++ Tryz.f6.resultTypes.toList).any (Tryz.prog.wideKeysFrom ·)) = true := by kernel_rfl
theorem row15 : Rows.fnExactFragsInSpec.vars.all (Tryz.prog.varReadable ·) = true := by kernel_rfl
theorem row16 : Tryz.f6.resultTypes.all (fun t => Tryz.prog.readableRec t && decide (t < Tryz.prog.types.size)) = true := by kernel_rfl
theorem row17 : (Rows.fnExactFragsInRow.ifacesOut == Tryz.f6.resultTypes.toList.any (Tryz.prog.ifacesRec ·)) = true := by kernel_rfl
theorem row18 : (Rows.fnExactFragsInRow.loopsOut == Tryz.f6.resultTypes.toList.any (Tryz.prog.loopsFrom ·)) = true := by kernel_rfl
theorem row19 : Rows.fnExactFragsInRow.shortTexts.isNone = true := by kernel_rfl
theorem row20 : (Rows.fnExactFragsInRow.kinds == (if Rows.fnExactFragsInRow.domain.isEmpty then [] else Tryz.f6.params.toList.map fun t => match Tryz.prog.underlying t with | some (.int k) => some k | _ => none)) = true := by kernel_rfl
theorem row21 : (Rows.fnExactFragsInRow.pinned == Rows.fnExactFragsInRow.pinnedBy) = true := by kernel_rfl
theorem row22 : (Rows.fnExactFragsInRow.veiled == (Tryz.f6.params.toList ++ Rows.fnExactFragsInSpec.plain.varTypes Tryz.prog ++ Tryz.f6.resultTypes.toList).any (Tryz.prog.veiledRec ·)) = true := by kernel_rfl
theorem row23 : Rows.fnExactFragsInRow.veiledFits Tryz.prog Tryz.f6.params.toList (Tryz.f6.params.toList ++ Rows.fnExactFragsInSpec.plain.varTypes Tryz.prog ++ Tryz.f6.resultTypes.toList) = true := by kernel_rfl
set_option maxRecDepth 100000 in
theorem over : Rows.fnExactFragsInRow.holds Tryz.pinned (OpenSpec.ofChange Rows.fnExactFragsInSpec) :=
  OpenClaim.holds_of_wide 6 Tryz.f6 rfl rfl rfl rfl rfl rfl rfl ⟨rfl, rfl, rfl, rfl, rfl⟩ rfl rfl rfl rfl rfl (by kernel_rfl) Tryz.func6 (joined_of shr_laid shr_maps shr_stops shr_knobs shr_plain shr_heard shr_enter shr_lifted shr_make row1 row2 row3 row4 row5 row6 row7 row8 row9 row10 row11 row12 row13 row14 row15 row16 row17 row18 row19 row20 row21 row22 row23)
    (of_decide_eq_true (by kernel_rfl)) (by unfold Func.isWrapper; first | (rw [if_pos (by decide +kernel)]; kernel_rfl) | (rw [if_neg (by decide +kernel)]; exact ⟨rfl, rfl⟩))
    (fun os started H enc _ => lifted os started H enc)
end Go.Proofs.YthpbggfajpakkaaGreat.Abs
namespace Go.Proofs.YthpbggfajpakkaaGreat
/-- The row, under a short name, for the claim. -/
theorem fnExactFragsIn_holds : Rows.FnExactFragsInSaid := Abs.over
#print axioms fnExactFragsIn_holds
end Go.Proofs.YthpbggfajpakkaaGreat
