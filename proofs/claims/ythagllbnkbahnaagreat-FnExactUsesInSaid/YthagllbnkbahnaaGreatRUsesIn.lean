/- FnExactUsesIn: the row: whatever its arguments, the law returns true, and they read as they did. No condition. -/
import Derived.Test.YthagllbnkbahnaaGreatLUsesIn
import Derived.Test.YthagllbnkbahnaaGreatShr
set_option linter.unusedVariables false
namespace Go.Proofs.YthagllbnkbahnaaGreat.Abs
open Go
set_option maxRecDepth 100000 in
theorem lifted (os : Os) (started : os.Started) (H : Type) (enc : TypeId × Value → H) :
    ReturnsInHanded {} Tryz.checked os 3 .any (Rows.fnExactUsesInSpec.pre6 enc Tryz.prog Tryz.f3 Rows.fnExactUsesInRow.domain false) (Rows.fnExactUsesInSpec.post enc Tryz.prog Tryz.f3 false true false false) := by
  refine law_returns (C := Tryz.checked) [25, 22, 99, 3, 4, 9, 94, 95, 187, 96, 190, 185, 154, 152, 53, 159, 52, 156, 97, 193, 23, 102, 26, 55] own started (by kernel_rfl) Tryz.func3
    (ChangeSpec.witness6 (enc := enc) (C := Tryz.checked) false ⟨#[], #[.agg #[.slice none 0 0, .slice none 0 0, .slice none 0 0], .string ⟨#[]⟩, .slice none 0 0], []⟩ 8 (by kernel_rfl) (by kernel_rfl) (by kernel_rfl) (by kernel_rfl))
    rfl rfl (fun ds hds => ?_) rfl Tryz.underlying4 (by kernel_rfl) (by kernel_rfl) (by kernel_rfl) (fun args h => ?_) ⟨rfl, rfl⟩
  · have hds : ds.length = 3 := hds
    match ds, hds with
    | [d0, d1, d2], _ => rfl
  · replace h : TypedVs Tryz.prog [25, 9, 26] args := h
    cases h with
    | cons h0 q1 =>
      cases q1 with
      | cons h1 q2 =>
        cases q2 with
        | cons h2 q3 =>
          cases q3
          obtain ⟨cells0, rfl, g0⟩ := typedV_agg td25 h0
          obtain ⟨a0, rfl⟩ := inv_Schema g0
          have g1 := typedV_one (by rw [td9]; simp) h1
          obtain ⟨a1, e1, hz1⟩ := typed_str td9 g1
          cases e1
          have g2 := typedV_one (by rw [td26]; simp) h2
          obtain ⟨a2, e2⟩ := inv_SelS g2
          cases e2
          exact c_law a0 a1 a2
theorem row1 : Rows.fnExactUsesInRow.wf (OpenSpec.ofChange Rows.fnExactUsesInSpec) = true := by kernel_rfl
theorem row2 : Tryz.f3.params.all (Tryz.prog.readableRec ·) = true := by kernel_rfl
theorem row3 : namedTie Tryz.prog Rows.fnExactUsesInRow.named Rows.fnExactUsesInSpec.vars = true := by kernel_rfl
theorem row4 : (Rows.fnExactUsesInRow.stops == []) = true := by kernel_rfl
theorem row5 : (Rows.fnExactUsesInRow.knobs == []) = true := by kernel_rfl
theorem row6 : (Rows.fnExactUsesInRow.inPlace == Tryz.prog.inPlace 3) = true := by kernel_rfl
theorem row7 : (Rows.fnExactUsesInRow.unfollowed == Tryz.prog.unfollowed 3) = true := by kernel_rfl
theorem row8 : (Rows.fnExactUsesInRow.recurses == Tryz.prog.recurses 3) = true := by kernel_rfl
theorem row9 : (Rows.fnExactUsesInRow.named == Tryz.prog.varsNamed 3) = true := by kernel_rfl
theorem row10 : (Rows.fnExactUsesInRow.maps == (Tryz.f3.params.toList ++ Rows.fnExactUsesInSpec.plain.varTypes Tryz.prog).any (Tryz.prog.mapsRec ·)) = true := by kernel_rfl
theorem row11 : (Rows.fnExactUsesInRow.ifaces == (Tryz.f3.params.toList ++ Rows.fnExactUsesInSpec.plain.varTypes Tryz.prog).any (Tryz.prog.ifacesRec ·)) = true := by kernel_rfl
theorem row12 : (Rows.fnExactUsesInRow.mapsOut == Tryz.prog.mapsAmong Tryz.f3.resultTypes.toList) = true := by kernel_rfl
theorem row13 : (Rows.fnExactUsesInRow.loops == (Tryz.f3.params.toList ++ Rows.fnExactUsesInSpec.plain.varTypes Tryz.prog).any (Tryz.prog.loopsFrom ·)) = true := by kernel_rfl
theorem row14 : (Rows.fnExactUsesInRow.wideKeys == (Tryz.f3.params.toList ++ Rows.fnExactUsesInSpec.plain.varTypes Tryz.prog ++ Tryz.f3.resultTypes.toList).any (Tryz.prog.wideKeysFrom ·)) = true := by kernel_rfl
theorem row15 : Rows.fnExactUsesInSpec.vars.all (Tryz.prog.varReadable ·) = true := by kernel_rfl
theorem row16 : Tryz.f3.resultTypes.all (fun t => Tryz.prog.readableRec t && decide (t < Tryz.prog.types.size)) = true := by kernel_rfl
theorem row17 : (Rows.fnExactUsesInRow.ifacesOut == Tryz.f3.resultTypes.toList.any (Tryz.prog.ifacesRec ·)) = true := by kernel_rfl
theorem row18 : (Rows.fnExactUsesInRow.loopsOut == Tryz.f3.resultTypes.toList.any (Tryz.prog.loopsFrom ·)) = true := by kernel_rfl
theorem row19 : Rows.fnExactUsesInRow.shortTexts.isNone = true := by kernel_rfl
theorem row20 : (Rows.fnExactUsesInRow.kinds == (if Rows.fnExactUsesInRow.domain.isEmpty then [] else Tryz.f3.params.toList.map fun t => match Tryz.prog.underlying t with | some (.int k) => some k | _ => none)) = true := by kernel_rfl
theorem row21 : (Rows.fnExactUsesInRow.pinned == Rows.fnExactUsesInRow.pinnedBy) = true := by kernel_rfl
theorem row22 : (Rows.fnExactUsesInRow.veiled == (Tryz.f3.params.toList ++ Rows.fnExactUsesInSpec.plain.varTypes Tryz.prog ++ Tryz.f3.resultTypes.toList).any (Tryz.prog.veiledRec ·)) = true := by kernel_rfl
theorem row23 : Rows.fnExactUsesInRow.veiledFits Tryz.prog Tryz.f3.params.toList (Tryz.f3.params.toList ++ Rows.fnExactUsesInSpec.plain.varTypes Tryz.prog ++ Tryz.f3.resultTypes.toList) = true := by kernel_rfl
set_option maxRecDepth 100000 in
theorem over : Rows.fnExactUsesInRow.holds Tryz.pinned (OpenSpec.ofChange Rows.fnExactUsesInSpec) :=
  OpenClaim.holds_of_wide 3 Tryz.f3 rfl rfl rfl rfl rfl rfl rfl ⟨rfl, rfl, rfl, rfl, rfl⟩ rfl rfl rfl rfl rfl (by kernel_rfl) Tryz.func3 (joined_of shr_laid shr_maps shr_stops shr_knobs shr_plain shr_heard shr_enter shr_lifted shr_make row1 row2 row3 row4 row5 row6 row7 row8 row9 row10 row11 row12 row13 row14 row15 row16 row17 row18 row19 row20 row21 row22 row23)
    (of_decide_eq_true (by kernel_rfl)) (by unfold Func.isWrapper; first | (rw [if_pos (by decide +kernel)]; kernel_rfl) | (rw [if_neg (by decide +kernel)]; exact ⟨rfl, rfl⟩))
    (fun os started H enc _ => lifted os started H enc)
end Go.Proofs.YthagllbnkbahnaaGreat.Abs
namespace Go.Proofs.YthagllbnkbahnaaGreat
/-- The row, under a short name, for the claim. -/
theorem fnExactUsesIn_holds : Rows.FnExactUsesInSaid := Abs.over
#print axioms fnExactUsesIn_holds
end Go.Proofs.YthagllbnkbahnaaGreat
