/- A result that nobody else looks at may be frozen. No condition. -/
import Derived.Test.YtkefgpmnimpcdaaGreatDoorAbsT
set_option linter.unusedVariables false
set_option linter.unusedSimpArgs false
namespace Go.Proofs.YtkefgpmnimpcdaaGreatDoor.Abs
open Go
theorem ct_freeze {P : Program} {f : FuncId} {args cells : List AC} {K K' : List (List (List AC))} {e : TypeId} {n : Nat} (h : Ct P f args K (.sl (.ex e) n cells) K') : Ct P f args K (.sl (.of e) n cells) K' := by
  refine ⟨h.1, ?_⟩
  intro w Pr bl vals La Lk hA hK hcnt hlt htab
  refine (h.2 w Pr bl vals La Lk hA hK hcnt hlt htab).mono ?_
  rintro e' w' ⟨v, Pr', Lr, Lk', bl', rfl, hbl, hr, hK', hc', hsub, hlt', hsi⟩
  cases hr with
  | slNil => exact ⟨_, Pr', [], Lk', bl', rfl, hbl, .slNil, hK', hc', hsub, hlt', hsi⟩
  | slEx h1 h2 h3 h4 h5 h6 h7 h8 h9 =>
    rename_i vals' g cap L cur
    have hg : ∀ x, x ∈ L ++ Lk' ++ bl'.flatten → x ≠ g := by
      intro x hx e2
      subst e2
      have := hc' x
      have h0 : 0 < (L ++ Lk' ++ bl'.flatten).count x := List.count_pos_iff.2 hx
      simp only [List.cons_append, List.count_cons_self] at this
      omega
    let Pr'' : Addr → Prop := fun a => Pr' a ∨ ∃ j, j < n * P.cellsOf e ∧ a = ⟨g, j, none⟩
    have hp : ∀ a, Pr' a → Pr'' a ∧ w'.cell? a = w'.cell? a := fun a ha => ⟨.inl ha, rfl⟩
    have hkept : ∀ x, x ∈ L ++ Lk' ++ bl'.flatten → Kept w' Pr' w' Pr'' x := by
      intro x hx
      refine ⟨rfl, ?_⟩
      intro a ha hax
      rcases ha with ha | ⟨j, hj, rfl⟩
      · exact ha
      · exact absurd hax.symm (hg x hx)
    have hgs : g < w'.heap.size := by
      have := (Array.getElem?_eq_some_iff.1 h3).1
      exact this
    refine ⟨_, Pr'', g :: L, Lk', bl', rfl, hbl, .slOf (h1.kept hp fun x hx => hkept x (by simp [hx])) h2 h3 h4 h5 h6 h7 h8 ?_ ?_, hK'.kept hp (fun x hx => hkept x (by simp [hx])) (fun x hx => hkept x (by rw [List.mem_append]; exact .inr hx)), hc', hsub, ?_, ?_⟩
    · intro a ha hag
      rcases ha with ha | ⟨j, hj, rfl⟩
      · exact absurd hag (h9 a ha)
      · exact hj
    · exact fun j hj => .inr ⟨j, hj, rfl⟩
    · intro a ha
      rcases ha with ha | ⟨j, hj, rfl⟩
      · exact hlt' a ha
      · exact hgs
    · refine ⟨hsi.os, hsi.tape, hsi.output, hsi.size, hsi.block, fun a ha => ⟨.inl (hsi.prot a ha).1, (hsi.prot a ha).2⟩, ?_⟩
      intro a ha
      rcases ha with ha | ⟨j, hj, rfl⟩
      · exact hsi.newPr a ha
      · rcases hsub g (by simp) with h0 | h0
        · exact .inr (.inl (by rw [List.mem_append]; exact .inl h0))
        · exact .inr (.inr h0)
end Go.Proofs.YtkefgpmnimpcdaaGreatDoor.Abs
