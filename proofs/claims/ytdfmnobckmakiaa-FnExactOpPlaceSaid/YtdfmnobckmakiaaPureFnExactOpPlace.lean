/- The program's OpPlace and the reference's OpPlace return the same text for every whole number: both are the same chain of tests. No condition beyond what the given statement says. -/
import Derived.Test.YtdfmnobckmakiaaPFnExactOpPlacex1
namespace Go.Proofs.Ytdfmnobckmakiaa.Pure
open Go.RowKit Go.Proofs.Ytdfmnobckmakiaa.PFnExactOpPlace Go.Proofs.YtdfmnobckmakiaaW.PrintWords Go.Proofs.YtdfmnobckmakiaaW.PrintLast

theorem op_place_same (n : Int) : ∃ r, spec_OpPlace.f n = some r ∧ impl_OpPlace.f n = some r := by
  unfold spec_OpPlace.f impl_OpPlace.f
  by_cases h1 : n = 1
  · rw [if_pos h1]; exact ⟨_, rfl, rfl⟩
  · by_cases h2 : n = 2
    · rw [if_neg h1, if_pos h2]; exact ⟨_, rfl, rfl⟩
    · by_cases h3 : n = 3
      · rw [if_neg h1, if_neg h2, if_pos h3]; exact ⟨_, rfl, rfl⟩
      · rw [if_neg h1, if_neg h2, if_neg h3]; exact ⟨_, rfl, rfl⟩

theorem FnExactOpPlace : laws_FnExactOpPlace.Pure := by
  intro n _
  obtain ⟨r, h1, h2⟩ := op_place_same n
  unfold laws_FnExactOpPlace.f
  rw [h1, h2]
  simp

end Go.Proofs.Ytdfmnobckmakiaa.Pure
