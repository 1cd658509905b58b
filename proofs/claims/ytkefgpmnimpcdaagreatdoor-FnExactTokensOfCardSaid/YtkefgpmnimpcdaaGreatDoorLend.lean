/- What a slot alone holds may be looked at from now on. No condition. -/
import Derived.Test.YtkefgpmnimpcdaaGreatDoorTr
set_option linter.unusedVariables false
set_option linter.unusedSimpArgs false
namespace Go.Proofs.YtkefgpmnimpcdaaGreatDoor.Abs
open Go
mutual
def toOf : AC → AC
  | .sl (.of e) n cs => .sl (.of e) n (toOfL cs)
  | .sl (.ex e) n cs => .sl (.of e) n (toOfL cs)
  | .agg cs => .agg (toOfL cs)
  | .tup vs => .tup (toOfL vs)
  | v => v
def toOfL : List AC → List AC
  | [] => []
  | c :: cs => toOf c :: toOfL cs
end
section
variable {P : Program} {w : World}
/-- What is added lies in the blocks of L. -/
def Adds (L : List Nat) (Pr Pr' : Addr → Prop) : Prop := (∀ a, Pr a → Pr' a) ∧ ∀ a, Pr' a → Pr a ∨ a.block ∈ L
theorem Adds.kept {L : List Nat} {Pr Pr' : Addr → Prop} (h : Adds L Pr Pr') {g : Nat} (hg : g ∉ L) : Kept w Pr w Pr' g :=
  ⟨rfl, fun a ha e => (h.2 a ha).resolve_right fun hm => hg (by rw [← e]; exact hm)⟩
theorem Adds.hp {L : List Nat} {Pr Pr' : Addr → Prop} (h : Adds L Pr Pr') : ∀ a, Pr a → Pr' a ∧ w.cell? a = w.cell? a := fun a ha => ⟨h.1 a ha, rfl⟩
theorem Adds.refl {L : List Nat} {Pr : Addr → Prop} : Adds L Pr Pr := ⟨fun _ h => h, fun _ h => .inl h⟩
theorem not_mem_of_count {L : List Nat} {g : Nat} (h : (g :: L).count g ≤ 1) : g ∉ L := fun hm => by
  have := List.count_pos_iff.2 hm
  rw [List.count_cons_self] at h; omega
mutual
theorem Rep.lendOf : ∀ {Pr : Addr → Prop} {bl c v L}, Rep P w Pr bl c v L → (∀ x, L.count x ≤ 1) → ∃ Pr', Adds L Pr Pr' ∧ Rep P w Pr' bl (toOf c) v L
  | Pr, _, _, _, _, .bool, _ => ⟨Pr, .refl, by simp only [toOf]; exact .bool⟩
  | Pr, _, _, _, _, .int, _ => ⟨Pr, .refl, by simp only [toOf]; exact .int⟩
  | Pr, _, _, _, _, .str h h', _ => ⟨Pr, .refl, by simp only [toOf]; exact .str h h'⟩
  | Pr, _, _, _, _, .slNo h1 h2 h3 h4 h5, _ => ⟨Pr, .refl, by simp only [toOf]; exact .slNo h1 h2 h3 h4 h5⟩
  | Pr, _, _, _, _, .slNil (o := o), _ => ⟨Pr, .refl, by cases o <;> simp only [toOf, toOfL] <;> exact .slNil⟩
  | Pr, _, _, _, _, .slOf (g := g) (L := L) h1 h2 h3 h4 h5 h6 h7 h8 h9 h10, hc => by
    have hgL := not_mem_of_count (hc g)
    obtain ⟨Pr', ha, hr⟩ := Reps.lendOf h1 (fun x => by have := hc x; rw [List.count_cons] at this; omega)
    refine ⟨Pr', ⟨ha.1, fun a h => (ha.2 a h).imp id (List.mem_cons_of_mem _)⟩, ?_⟩
    simp only [toOf]
    exact .slOf hr h2 h3 h4 h5 h6 h7 h8 (fun a h e => h9 a ((ha.2 a h).resolve_right fun hm => hgL (by rw [← e]; exact hm)) e) (fun j hj => ha.1 _ (h10 j hj))
  | Pr, _, _, _, _, .slEx (g := g) (L := L) (n := n) (e := e) h1 h2 h3 h4 h5 h6 h7 h8 h9, hc => by
    have hgL := not_mem_of_count (hc g)
    obtain ⟨Pr', ha, hr⟩ := Reps.lendOf h1 (fun x => by have := hc x; rw [List.count_cons] at this; omega)
    have hb : Adds [g] Pr' (fun a => Pr' a ∨ (a.block = g ∧ a.spot = none ∧ a.off < n * P.cellsOf e)) :=
      ⟨fun a h => .inl h, fun a h => h.imp id fun h => by rw [h.1]; exact List.mem_cons_self⟩
    refine ⟨fun a => Pr' a ∨ (a.block = g ∧ a.spot = none ∧ a.off < n * P.cellsOf e), ⟨fun a h => .inl (ha.1 a h), fun a h => ?_⟩, ?_⟩
    · rcases h with h | h
      · exact (ha.2 a h).imp id (List.mem_cons_of_mem _)
      · right; rw [h.1]; exact List.mem_cons_self
    · simp only [toOf]
      refine .slOf (hr.kept hb.hp fun x hx => hb.kept fun hm => hgL (by rw [List.mem_singleton] at hm; rw [← hm]; exact hx)) h2 h3 h4 h5 h6 h7 h8 ?_ ?_
      · rintro a (h | ⟨_, _, h⟩) e
        · rcases ha.2 a h with h | h
          · exact absurd e (h9 a h)
          · exact absurd (by rw [← e]; exact h) hgL
        · exact h
      · intro j hj; exact .inr ⟨rfl, rfl, hj⟩
  | Pr, _, _, _, _, .nam h, _ => ⟨Pr, .refl, by simp only [toOf]; exact .nam h⟩
  | Pr, _, _, _, _, .ept, _ => ⟨Pr, .refl, by simp only [toOf]; exact .ept⟩
  | Pr, _, _, _, _, .als h1 h2, _ => ⟨Pr, .refl, by simp only [toOf]; exact .als h1 h2⟩
  | Pr, _, _, _, _, .alsA, _ => ⟨Pr, .refl, by simp only [toOf]; exact .alsA⟩
  | Pr, _, _, _, _, .agg h1 h2, hc => by
    obtain ⟨Pr', ha, hr⟩ := Reps.lendOf h1 hc
    exact ⟨Pr', ha, by simp only [toOf]; exact .agg hr h2⟩
  | Pr, _, _, _, _, .tup h1, hc => by
    obtain ⟨Pr', ha, hr⟩ := Reps.lendOf h1 hc
    exact ⟨Pr', ha, by simp only [toOf]; exact .tup hr⟩
  | Pr, _, _, _, _, .ptr h, _ => ⟨Pr, .refl, by simp only [toOf]; exact .ptr h⟩
  | Pr, _, _, _, _, .ref h1 h2 h3, _ => ⟨Pr, .refl, by simp only [toOf]; exact .ref h1 h2 h3⟩
  | Pr, _, _, _, _, .fn h0 h, _ => ⟨Pr, .refl, by simp only [toOf]; exact .fn h0 h⟩
  | Pr, _, _, _, _, .optT h, _ => ⟨Pr, .refl, by simp only [toOf]; exact .optT h⟩
  | Pr, _, _, _, _, .optF, _ => ⟨Pr, .refl, by simp only [toOf]; exact .optF⟩
  | Pr, _, _, _, _, .undef, _ => ⟨Pr, .refl, by simp only [toOf]; exact .undef⟩
theorem Reps.lendOf : ∀ {Pr : Addr → Prop} {bl cs vs L}, Reps P w Pr bl cs vs L → (∀ x, L.count x ≤ 1) → ∃ Pr', Adds L Pr Pr' ∧ Reps P w Pr' bl (toOfL cs) vs L
  | Pr, _, _, _, _, .nil, _ => ⟨Pr, .refl, by simp only [toOfL]; exact .nil⟩
  | Pr, _, _, _, _, .cons (L := L1) (M := L2) h1 h2, hc => by
    have hd1 : ∀ g ∈ L2, g ∉ L1 := fun g h2 h1 => by
      have := hc g; have := List.count_pos_iff.2 h1; have := List.count_pos_iff.2 h2
      rw [List.count_append] at *; omega
    have hd2 : ∀ g ∈ L1, g ∉ L2 := fun g h1 h2 => hd1 g h2 h1
    obtain ⟨Pr1, a1, r1⟩ := Rep.lendOf h1 (fun x => by have := hc x; rw [List.count_append] at this; omega)
    obtain ⟨Pr2, a2, r2⟩ := Reps.lendOf (h2.kept a1.hp fun g hg => a1.kept (hd1 g hg)) (fun x => by have := hc x; rw [List.count_append] at this; omega)
    refine ⟨Pr2, ⟨fun a h => a2.1 a (a1.1 a h), fun a h => ?_⟩, ?_⟩
    · rcases a2.2 a h with h | h
      · exact (a1.2 a h).imp id (List.mem_append_left _)
      · exact .inr (List.mem_append_right _ h)
    · simp only [toOfL]
      exact .cons (r1.kept a2.hp fun g hg => a2.kept (hd2 g hg)) r2
end
/-- What a function alone hands back may be looked at. -/
theorem Ct.toOf {f : FuncId} {args : List AC} {K K' : List (List (List AC))} {r : AC} (h : Ct P f args K r K') : Ct P f args K (Abs.toOf r) K' := by
  refine ⟨h.1, fun w Pr bl vals La Lk h1 h2 h3 h4 h5 => (h.2 w Pr bl vals La Lk h1 h2 h3 h4 h5).mono ?_⟩
  rintro e w' ⟨v, Pr', Lr, Lk', bl', rfl, hx, hr, hK, hc, hn, hlt, hs⟩
  obtain ⟨Pr2, ha, hr2⟩ := hr.lendOf (fun x => by have := hc x; simp only [List.count_append] at this; omega)
  have hd : ∀ g, 0 < Lk'.count g + bl'.flatten.count g → g ∉ Lr := fun g hg hm => by
    have := hc g; have := List.count_pos_iff.2 hm; simp only [List.count_append] at *; omega
  refine ⟨v, Pr2, Lr, Lk', bl', rfl, hx, hr2, hK.kept ha.hp (fun g hg => ha.kept (hd g (by have := List.count_pos_iff.2 hg; omega))) (fun g hg => ha.kept (hd g (by have := List.count_pos_iff.2 hg; omega))), hc, hn, fun a h => ?_,
    ⟨hs.os, hs.tape, hs.output, hs.size, hs.block, fun a h => ⟨ha.1 a (hs.prot a h).1, (hs.prot a h).2⟩, fun a h => ?_⟩⟩
  · rcases ha.2 a h with h | h
    · exact hlt a h
    · exact hr.own_lt _ h
  · rcases ha.2 a h with h | h
    · exact hs.newPr a h
    · rcases hn _ (List.mem_append_left _ h) with h | h
      · exact .inr (.inl (List.mem_append_left _ h))
      · exact .inr (.inr h)
end
theorem toOfL_app {a b : List AC} : toOfL (a ++ b) = toOfL a ++ toOfL b := by
  induction a with
  | nil => simp [toOfL]
  | cons t ts ih => simp [toOfL, ih]
mutual
theorem toOf_ex : ∀ t : Tr, toOf (encT .ex t) = encT .of t
  | .bool b => by simp [encT, toOf]
  | .int k n => by simp [encT, toOf]
  | .str s => by simp [encT, toOf]
  | .sl e rows => by simp only [encT, Md.ow_of, Md.ow_ex, toOf]; rw [toOf_exR rows]
theorem toOf_exL : ∀ r : List Tr, toOfL (encL .ex r) = encL .of r
  | [] => by simp [encL, toOfL]
  | t :: ts => by simp only [encL, toOfL]; rw [toOf_ex t, toOf_exL ts]
theorem toOf_exR : ∀ rs : List (List Tr), toOfL (encR .ex rs) = encR .of rs
  | [] => by simp [encR, toOfL]
  | r :: rs => by simp only [encR]; rw [toOfL_app, toOf_exL r, toOf_exR rs]
end
/-- The same for data. -/
theorem Ct.ofAgg {P : Program} {f : FuncId} {args : List AC} {K K' : List (List (List AC))} {r : List Tr} (h : Ct P f args K (.agg (encL .ex r)) K') : Ct P f args K (.agg (encL .of r)) K' := by
  have := h.toOf; simpa only [Abs.toOf, toOf_exL] using this
theorem Ct.ofSl {P : Program} {f : FuncId} {args : List AC} {K K' : List (List (List AC))} {e : TypeId} {n : Nat} {r : List (List Tr)} (h : Ct P f args K (.sl (.ex e) n (encR .ex r)) K') : Ct P f args K (.sl (.of e) n (encR .of r)) K' := by
  have := h.toOf; simpa only [Abs.toOf, toOf_exR] using this
end Go.Proofs.YtkefgpmnimpcdaaGreatDoor.Abs
