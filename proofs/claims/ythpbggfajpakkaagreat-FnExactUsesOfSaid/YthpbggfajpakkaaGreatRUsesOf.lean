/- FnExactUsesOf: the row: whatever its arguments, the law returns true, and they read as they did. No condition. -/
import Derived.Test.YthpbggfajpakkaaGreatLUsesOf
import Derived.Test.YthpbggfajpakkaaGreatShr
set_option linter.unusedVariables false
namespace Go.Proofs.YthpbggfajpakkaaGreat.Abs
open Go
set_option maxRecDepth 100000 in
theorem lifted (os : Os) (started : os.Started) (H : Type) (enc : TypeId × Value → H) :
    ReturnsInHanded {} Tryz.checked os 3 .any (Rows.fnExactUsesOfSpec.pre6 enc Tryz.prog Tryz.f3 Rows.fnExactUsesOfRow.domain false) (Rows.fnExactUsesOfSpec.post enc Tryz.prog Tryz.f3 false true false false) := by
  refine law_returns (C := Tryz.checked) [25, 22, 176, 3, 4, 9, 27, 172, 267, 173, 270, 31, 29, 26, 128, 252, 127, 249, 174, 273, 23, 178] own started (by kernel_rfl) Tryz.func3
    (ChangeSpec.witness6 (enc := enc) (C := Tryz.checked) false ⟨#[], #[.agg #[.slice none 0 0, .slice none 0 0, .slice none 0 0], .agg #[.int .i64 0, .string ⟨#[]⟩, .slice none 0 0, .slice none 0 0], .agg #[.string ⟨#[]⟩, .string ⟨#[]⟩], .bool false], []⟩ 8 (by kernel_rfl) (by kernel_rfl) (by kernel_rfl) (by kernel_rfl))
    rfl rfl (fun ds hds => ?_) rfl Tryz.underlying4 (by kernel_rfl) (by kernel_rfl) (by kernel_rfl) (fun args h => ?_)
  · have hds : ds.length = 4 := hds
    match ds, hds with
    | [d0, d1, d2, d3], _ => rfl
  · replace h : TypedVs Tryz.prog [25, 29, 31, 4] args := h
    cases h with
    | cons h0 q1 =>
      cases q1 with
      | cons h1 q2 =>
        cases q2 with
        | cons h2 q3 =>
          cases q3 with
          | cons h3 q4 =>
            cases q4
            obtain ⟨cells0, rfl, g0⟩ := typedV_agg td25 h0
            obtain ⟨a0, rfl⟩ := inv_Schema g0
            obtain ⟨cells1, rfl, g1⟩ := typedV_agg td29 h1
            obtain ⟨a1, rfl⟩ := inv_Value g1
            obtain ⟨cells2, rfl, g2⟩ := typedV_agg td31 h2
            obtain ⟨a2, rfl⟩ := inv_Type g2
            have g3 := typedV_one (by rw [td4]; simp) h3
            obtain ⟨a3, e3⟩ := typed_bool td4 g3
            cases e3
            exact c_law a0 a1 a2 a3
theorem row1 : Rows.fnExactUsesOfRow.wf (OpenSpec.ofChange Rows.fnExactUsesOfSpec) = true := by kernel_rfl
theorem row2 : Tryz.f3.params.all (Tryz.prog.readableRec ·) = true := by kernel_rfl
theorem row3 : namedTie Tryz.prog Rows.fnExactUsesOfRow.named Rows.fnExactUsesOfSpec.vars = true := by kernel_rfl
theorem row4 : (Rows.fnExactUsesOfRow.stops == []) = true := by kernel_rfl
theorem row5 : (Rows.fnExactUsesOfRow.knobs == []) = true := by kernel_rfl
theorem row6 : (Rows.fnExactUsesOfRow.inPlace == Tryz.prog.inPlace 3) = true := by kernel_rfl
theorem row7 : (Rows.fnExactUsesOfRow.unfollowed == Tryz.prog.unfollowed 3) = true := by kernel_rfl
theorem row8 : (Rows.fnExactUsesOfRow.recurses == Tryz.prog.recurses 3) = true := by kernel_rfl
theorem row9 : (Rows.fnExactUsesOfRow.named == Tryz.prog.varsNamed 3) = true := by kernel_rfl
theorem row10 : (Rows.fnExactUsesOfRow.maps == (Tryz.f3.params.toList ++ Rows.fnExactUsesOfSpec.plain.varTypes Tryz.prog).any (Tryz.prog.mapsRec ·)) = true := by kernel_rfl
theorem row11 : (Rows.fnExactUsesOfRow.ifaces == (Tryz.f3.params.toList ++ Rows.fnExactUsesOfSpec.plain.varTypes Tryz.prog).any (Tryz.prog.ifacesRec ·)) = true := by kernel_rfl
theorem row12 : (Rows.fnExactUsesOfRow.mapsOut == Tryz.prog.mapsAmong Tryz.f3.resultTypes.toList) = true := by kernel_rfl
theorem row13 : (Rows.fnExactUsesOfRow.loops == (Tryz.f3.params.toList ++ Rows.fnExactUsesOfSpec.plain.varTypes Tryz.prog).any (Tryz.prog.loopsFrom ·)) = true := by kernel_rfl
theorem row14 : (Rows.fnExactUsesOfRow.wideKeys == (Tryz.f3.params.toList ++ Rows.fnExactUsesOfSpec.plain.varTypes Tryz.prog ++ Tryz.f3.resultTypes.toList).any (Tryz.prog.wideKeysFrom ·)) = true := by kernel_rfl
theorem row15 : Rows.fnExactUsesOfSpec.vars.all (Tryz.prog.varReadable ·) = true := by kernel_rfl
theorem row16 : Tryz.f3.resultTypes.all (fun t => Tryz.prog.readableRec t && decide (t < Tryz.prog.types.size)) = true := by kernel_rfl
theorem row17 : (Rows.fnExactUsesOfRow.ifacesOut == Tryz.f3.resultTypes.toList.any (Tryz.prog.ifacesRec ·)) = true := by kernel_rfl
theorem row18 : (Rows.fnExactUsesOfRow.loopsOut == Tryz.f3.resultTypes.toList.any (Tryz.prog.loopsFrom ·)) = true := by kernel_rfl
theorem row19 : Rows.fnExactUsesOfRow.shortTexts.isNone = true := by kernel_rfl
theorem row20 : (Rows.fnExactUsesOfRow.kinds == (if Rows.fnExactUsesOfRow.domain.isEmpty then [] else Tryz.f3.params.toList.map fun t => match Tryz.prog.underlying t with | some (.int k) => some k | _ => none)) = true := by kernel_rfl
theorem row21 : (Rows.fnExactUsesOfRow.pinned == Rows.fnExactUsesOfRow.pinnedBy) = true := by kernel_rfl
theorem row22 : (Rows.fnExactUsesOfRow.veiled == (Tryz.f3.params.toList ++ Rows.fnExactUsesOfSpec.plain.varTypes Tryz.prog ++ Tryz.f3.resultTypes.toList).any (Tryz.prog.veiledRec ·)) = true := by kernel_rfl
theorem row23 : Rows.fnExactUsesOfRow.veiledFits Tryz.prog Tryz.f3.params.toList (Tryz.f3.params.toList ++ Rows.fnExactUsesOfSpec.plain.varTypes Tryz.prog ++ Tryz.f3.resultTypes.toList) = true := by kernel_rfl
set_option maxRecDepth 100000 in
theorem over : Rows.fnExactUsesOfRow.holds Tryz.pinned (OpenSpec.ofChange Rows.fnExactUsesOfSpec) :=
  OpenClaim.holds_of_wide 3 Tryz.f3 rfl rfl rfl rfl rfl rfl rfl ⟨rfl, rfl, rfl, rfl, rfl⟩ rfl rfl rfl rfl rfl (by kernel_rfl) Tryz.func3 (joined_of shr_laid shr_maps shr_stops shr_knobs shr_plain shr_heard shr_enter shr_lifted shr_make row1 row2 row3 row4 row5 row6 row7 row8 row9 row10 row11 row12 row13 row14 row15 row16 row17 row18 row19 row20 row21 row22 row23)
    (of_decide_eq_true (by kernel_rfl)) (by unfold Func.isWrapper; first | (rw [if_pos (by decide +kernel)]; kernel_rfl) | (rw [if_neg (by decide +kernel)]; exact ⟨rfl, rfl⟩))
    (fun os started H enc _ => lifted os started H enc)
end Go.Proofs.YthpbggfajpakkaaGreat.Abs
namespace Go.Proofs.YthpbggfajpakkaaGreat
/-- The row, under a short name, for the claim. -/
theorem fnExactUsesOf_holds : Rows.FnExactUsesOfSaid := Abs.over
#print axioms fnExactUsesOf_holds
end Go.Proofs.YthpbggfajpakkaaGreat
