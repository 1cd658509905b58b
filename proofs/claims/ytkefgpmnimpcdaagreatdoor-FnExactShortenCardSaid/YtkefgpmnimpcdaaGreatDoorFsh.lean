/- What a call alone made may be written. No condition. -/
import Derived.Test.YtkefgpmnimpcdaaGreatDoorTxLib
set_option linter.unusedVariables false
set_option linter.unusedSimpArgs false
namespace Go.Proofs.YtkefgpmnimpcdaaGreatDoor.Abs
open Go
theorem ct_fresh {P : Program} {f : FuncId} {args : List AC} {r : AC} (hs : args.all scalar = true) (hcl : closed r = true) (h : Ct P f args [] r []) (K : List (List (List AC))) : Ct P f args K (toEx r) K := by
  refine ⟨h.1, ?_⟩
  intro w Pr bl vals La Lk hA hK hcnt hlt htab
  obtain ⟨rfl, hA0⟩ := scalars_inv hs hA
  refine (h.2 w Pr [] vals [] [] hA0 ⟨rfl, rfl⟩ (by simp) hlt htab).mono ?_
  rintro e w' ⟨v, Pr', Lr, Lk', bl', rfl, hbl, hr, ⟨rfl, rfl⟩, hc', hsub, hlt', hsi⟩
  have hsame : ∀ a, Pr a → Pr a ∧ w'.cell? a = w.cell? a := fun a ha => ⟨ha, (hsi.prot a ha).2⟩
  have hkept : ∀ x, x ∈ Lk ++ bl.flatten → Kept w Pr w' Pr x := fun x hx => by
    have hxl : x < w.heap.size := by
      rcases List.mem_append.1 hx with hx | hx
      · exact hK.own_lt x hx
      · exact hK.box_lt x hx
    exact ⟨hsi.block x hxl (by simp), fun a ha _ => ha⟩
  have hLr : ∀ g ∈ Lr, w.heap.size ≤ g := fun g hg => by
    rcases hsub g (by simp [hg]) with h0 | h0
    · simp at h0
    · exact h0
  have hold : ∀ x ∈ Lk ++ bl.flatten, x < w.heap.size := fun x hx => by
    rcases List.mem_append.1 hx with hx | hx
    · exact hK.own_lt x hx
    · exact hK.box_lt x hx
  refine ⟨v, Pr, Lr, Lk, bl, rfl, .inl rfl, (hr.toEx hcl fun g hg a ha e => ?_).clbl (closed_toEx hcl), RepK.kept hsame hK (fun x hx => hkept x (List.mem_append_left _ hx)) (fun x hx => hkept x (List.mem_append_right _ hx)), fun x => ?_, fun x hx => ?_, fun a ha => Nat.lt_of_lt_of_le (hlt a ha) hsi.size, ?_⟩
  · have := hlt a ha; have := hLr g hg; omega
  · have h1 := hc' x
    have h2 := hcnt x
    simp only [List.append_nil, List.nil_append, List.flatten_nil, List.append_assoc, List.count_append] at h1 h2 ⊢
    by_cases hx : x ∈ Lr
    · have h3 := hLr x hx
      have h4 : (Lk ++ bl.flatten).count x = 0 := List.count_eq_zero.2 fun hm => by have := hold x hm; omega
      rw [List.count_append] at h4; omega
    · have h3 : Lr.count x = 0 := List.count_eq_zero.2 hx
      omega
  · rcases List.mem_append.1 hx with hx | hx
    · exact .inr (hLr x hx)
    · exact .inl (by simpa using hx)
  · exact ⟨hsi.os, hsi.tape, hsi.output, hsi.size, fun b hb _ => hsi.block b hb (by simp), hsame, fun a ha => .inl ha⟩
end Go.Proofs.YtkefgpmnimpcdaaGreatDoor.Abs
