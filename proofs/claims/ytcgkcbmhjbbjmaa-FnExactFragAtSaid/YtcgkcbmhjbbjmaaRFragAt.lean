/- FnExactFragAt: the row: whatever its arguments, the law returns true, and they read as they did. No condition. -/
import Derived.Test.YtcgkcbmhjbbjmaaLFragAt
import Derived.Test.YtcgkcbmhjbbjmaaShr
set_option linter.unusedVariables false
namespace Go.Proofs.Ytcgkcbmhjbbjmaa.Abs
open Go
set_option maxRecDepth 100000 in
theorem lifted (os : Os) (started : os.Started) (H : Type) (enc : TypeId × Value → H) :
    ReturnsInHanded {} Try.checked os 7 .any (Rows.fnExactFragAtSpec.pre6 enc Try.prog Try.f7 Rows.fnExactFragAtRow.domain false) (Rows.fnExactFragAtSpec.post enc Try.prog Try.f7 false true false false) := by
  refine law_returns (C := Try.checked) [56, 150, 9, 31, 133, 39, 142, 67, 3, 65, 22, 45, 47] own started (by kernel_rfl) Try.func7
    (ChangeSpec.witness6 (enc := enc) (C := Try.checked) false ⟨#[], #[.slice none 0 0, .string ⟨#[]⟩], []⟩ 8 (by kernel_rfl) (by kernel_rfl) (by kernel_rfl) (by kernel_rfl))
    rfl rfl (fun ds hds => ?_) rfl Try.underlying4 (by kernel_rfl) (by kernel_rfl) (by kernel_rfl) (fun args h => ?_)
  · have hds : ds.length = 2 := hds
    match ds, hds with
    | [d0, d1], _ => rfl
  · replace h : TypedVs Try.prog [56, 9] args := h
    cases h with
    | cons h0 q1 =>
      cases q1 with
      | cons h1 q2 =>
        cases q2
        have g0 := typedV_one (by rw [td56]; simp) h0
        obtain ⟨a0, e0⟩ := inv_FragS g0
        cases e0
        have g1 := typedV_one (by rw [td9]; simp) h1
        obtain ⟨a1, e1, hz1⟩ := typed_str td9 g1
        cases e1
        exact c_law a0 a1
theorem row1 : Rows.fnExactFragAtRow.wf (OpenSpec.ofChange Rows.fnExactFragAtSpec) = true := by kernel_rfl
theorem row2 : Try.f7.params.all (Try.prog.readableRec ·) = true := by kernel_rfl
theorem row3 : namedTie Try.prog Rows.fnExactFragAtRow.named Rows.fnExactFragAtSpec.vars = true := by kernel_rfl
theorem row4 : (Rows.fnExactFragAtRow.stops == []) = true := by kernel_rfl
theorem row5 : (Rows.fnExactFragAtRow.knobs == []) = true := by kernel_rfl
theorem row6 : (Rows.fnExactFragAtRow.inPlace == Try.prog.inPlace 7) = true := by kernel_rfl
theorem row7 : (Rows.fnExactFragAtRow.unfollowed == Try.prog.unfollowed 7) = true := by kernel_rfl
theorem row8 : (Rows.fnExactFragAtRow.recurses == Try.prog.recurses 7) = true := by kernel_rfl
theorem row9 : (Rows.fnExactFragAtRow.named == Try.prog.varsNamed 7) = true := by kernel_rfl
theorem row10 : (Rows.fnExactFragAtRow.maps == (Try.f7.params.toList ++ Rows.fnExactFragAtSpec.plain.varTypes Try.prog).any (Try.prog.mapsRec ·)) = true := by kernel_rfl
theorem row11 : (Rows.fnExactFragAtRow.ifaces == (Try.f7.params.toList ++ Rows.fnExactFragAtSpec.plain.varTypes Try.prog).any (Try.prog.ifacesRec ·)) = true := by kernel_rfl
theorem row12 : (Rows.fnExactFragAtRow.mapsOut == Try.prog.mapsAmong Try.f7.resultTypes.toList) = true := by kernel_rfl
theorem row13 : (Rows.fnExactFragAtRow.loops == (Try.f7.params.toList ++ Rows.fnExactFragAtSpec.plain.varTypes Try.prog).any (Try.prog.loopsFrom ·)) = true := by kernel_rfl
theorem row14 : (Rows.fnExactFragAtRow.wideKeys == (Try.f7.params.toList ++ Rows.fnExactFragAtSpec.plain.varTypes Try.prog ++ Try.f7.resultTypes.toList).any (Try.prog.wideKeysFrom ·)) = true := by kernel_rfl
theorem row15 : Rows.fnExactFragAtSpec.vars.all (Try.prog.varReadable ·) = true := by kernel_rfl
theorem row16 : Try.f7.resultTypes.all (fun t => Try.prog.readableRec t && decide (t < Try.prog.types.size)) = true := by kernel_rfl
theorem row17 : (Rows.fnExactFragAtRow.ifacesOut == Try.f7.resultTypes.toList.any (Try.prog.ifacesRec ·)) = true := by kernel_rfl
theorem row18 : (Rows.fnExactFragAtRow.loopsOut == Try.f7.resultTypes.toList.any (Try.prog.loopsFrom ·)) = true := by kernel_rfl
theorem row19 : Rows.fnExactFragAtRow.shortTexts.isNone = true := by kernel_rfl
theorem row20 : (Rows.fnExactFragAtRow.kinds == (if Rows.fnExactFragAtRow.domain.isEmpty then [] else Try.f7.params.toList.map fun t => match Try.prog.underlying t with | some (.int k) => some k | _ => none)) = true := by kernel_rfl
theorem row21 : (Rows.fnExactFragAtRow.pinned == Rows.fnExactFragAtRow.pinnedBy) = true := by kernel_rfl
theorem row22 : (Rows.fnExactFragAtRow.veiled == (Try.f7.params.toList ++ Rows.fnExactFragAtSpec.plain.varTypes Try.prog ++ Try.f7.resultTypes.toList).any (Try.prog.veiledRec ·)) = true := by kernel_rfl
theorem row23 : Rows.fnExactFragAtRow.veiledFits Try.prog Try.f7.params.toList (Try.f7.params.toList ++ Rows.fnExactFragAtSpec.plain.varTypes Try.prog ++ Try.f7.resultTypes.toList) = true := by kernel_rfl
set_option maxRecDepth 100000 in
theorem over : Rows.fnExactFragAtRow.holds Try.pinned (OpenSpec.ofChange Rows.fnExactFragAtSpec) :=
  OpenClaim.holds_of_wide 7 Try.f7 rfl rfl rfl rfl rfl rfl rfl ⟨rfl, rfl, rfl, rfl, rfl⟩ rfl rfl rfl rfl rfl (by kernel_rfl) Try.func7 (joined_of shr_laid shr_maps shr_stops shr_knobs shr_plain shr_heard shr_enter shr_lifted shr_make row1 row2 row3 row4 row5 row6 row7 row8 row9 row10 row11 row12 row13 row14 row15 row16 row17 row18 row19 row20 row21 row22 row23)
    (of_decide_eq_true (by kernel_rfl)) (by unfold Func.isWrapper; first | (rw [if_pos (by decide +kernel)]; kernel_rfl) | (rw [if_neg (by decide +kernel)]; exact ⟨rfl, rfl⟩))
    (fun os started H enc _ => lifted os started H enc)
end Go.Proofs.Ytcgkcbmhjbbjmaa.Abs
namespace Go.Proofs.Ytcgkcbmhjbbjmaa
/-- The row, under a short name, for the claim. -/
theorem fnExactFragAt_holds : Rows.FnExactFragAtSaid := Abs.over
#print axioms fnExactFragAt_holds
end Go.Proofs.Ytcgkcbmhjbbjmaa
