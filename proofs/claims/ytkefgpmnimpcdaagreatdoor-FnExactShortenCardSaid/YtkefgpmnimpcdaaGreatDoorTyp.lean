/- Data of a type, as trees. No condition. -/
import Derived.Test.YtkefgpmnimpcdaaGreatDoorData
import Derived.Test.YtkefgpmnimpcdaaGreatDoorAbsT
set_option linter.unusedVariables false
set_option linter.unusedSimpArgs false
namespace Go.Proofs.YtkefgpmnimpcdaaGreatDoor.Abs
open Go
section
variable {P : Program} {t e : TypeId} {cells : List AC}
theorem tdOf_str' (h : tdOf P t = .str) : P.underlying t = some .string := tdOf_str h
theorem typed_int {k : IntKind} (ht : tdOf P t = .int k) (h : Typed P t cells) : ∃ n, cells = [.int k n] ∧ (Lit.int k n).wf = true := by
  have hu := tdOf_int ht
  cases h with
  | int h1 h2 => rw [hu] at h1; cases h1; exact ⟨_, rfl, h2⟩
  | bool h1 => rw [hu] at h1; cases h1
  | str h1 _ => rw [hu] at h1; cases h1
  | slice h1 => rw [hu] at h1; cases h1
  | struct h1 => rw [hu] at h1; cases h1
theorem typed_bool (ht : tdOf P t = .bool) (h : Typed P t cells) : ∃ b, cells = [.bool b] := by
  have hu := tdOf_bool ht
  cases h with
  | bool h1 => exact ⟨_, rfl⟩
  | int h1 _ => rw [hu] at h1; cases h1
  | str h1 _ => rw [hu] at h1; cases h1
  | slice h1 => rw [hu] at h1; cases h1
  | struct h1 => rw [hu] at h1; cases h1
theorem typed_str (ht : tdOf P t = .str) (h : Typed P t cells) : ∃ s, cells = [.str s] ∧ s.length ≤ reachBytes := by
  have hu := tdOf_str ht
  cases h with
  | str h1 h2 => exact ⟨_, rfl, h2⟩
  | bool h1 => rw [hu] at h1; cases h1
  | int h1 _ => rw [hu] at h1; cases h1
  | slice h1 => rw [hu] at h1; cases h1
  | struct h1 => rw [hu] at h1; cases h1
theorem typed_slice (ht : tdOf P t = .slice e) (h : Typed P t cells) : ∃ n cs, cells = [.sl .no n cs] ∧ cs.length = n * P.cellsOf e ∧ ∀ i, i < n → Typed P e ((cs.drop (i * P.cellsOf e)).take (P.cellsOf e)) := by
  have hu := tdOf_slice ht
  cases h with
  | slice h1 h2 h3 h4 h5 => rw [hu] at h1; cases h1; exact ⟨_, _, rfl, h3, h5⟩
  | bool h1 => rw [hu] at h1; cases h1
  | int h1 _ => rw [hu] at h1; cases h1
  | str h1 _ => rw [hu] at h1; cases h1
  | struct h1 => rw [hu] at h1; cases h1
theorem typed_fields {l : List (Nat × Nat × TypeId)} (ht : tdOf P t = .struct l) (h : Typed P t cells) :
    cells.length = P.cellsOf t ∧ ∀ x ∈ l, Typed P x.2.2 ((cells.drop x.1).take x.2.1) := by
  unfold tdOf at ht
  cases h with
  | str h1 h2 => rw [h1] at ht; cases ht
  | bool h1 => rw [h1] at ht; cases ht
  | int h1 _ => rw [h1] at ht; cases ht
  | slice h1 => rw [h1] at ht; cases ht
  | struct h1 h2 h3 =>
    rw [h1] at ht
    simp only [TD.struct.injEq] at ht
    refine ⟨h2, fun x hx => ?_⟩
    rw [← ht] at hx
    obtain ⟨f, hm, rfl⟩ := List.mem_map.1 hx
    exact h3 f hm
theorem typedV_agg {a : AC} {l : List (Nat × Nat × TypeId)} (ht : tdOf P t = .struct l) (h : TypedV P t a) : ∃ cells, a = .agg cells ∧ Typed P t cells := by
  cases h with
  | one h1 _ =>
    unfold tdOf at ht
    split at ht
    all_goals first | (cases ht; done) | (rename_i hu; exact absurd hu (h1 _))
  | agg h1 h2 => exact ⟨_, rfl, h2⟩
theorem typedV_one {a : AC} (ht : ∀ l, tdOf P t ≠ .struct l) (h : TypedV P t a) : Typed P t [a] := by
  cases h with
  | one h1 h2 => exact h2
  | agg h1 h2 =>
    rename_i fs cells
    exact absurd (show tdOf P t = _ by unfold tdOf; rw [h1]) (ht _)
end
theorem len_cons {α : Type} {l : List α} {n : Nat} (h : l.length = n + 1) : ∃ a r, l = a :: r ∧ r.length = n := by
  cases l with
  | nil => cases h
  | cons a r => exact ⟨a, r, rfl, by simpa using h⟩
theorem list_of {α : Type} {tr : α → List Tr} {k : Nat} : ∀ {n : Nat} {cs : List AC}, cs.length = n * k → (∀ i, i < n → ∃ x, (cs.drop (i * k)).take k = encL .no (tr x)) → ∃ xs : List α, xs.length = n ∧ cs = encR .no (xs.map tr) := by
  intro n
  induction n with
  | zero => intro cs h _; exact ⟨[], rfl, by simpa [encR] using h⟩
  | succ n ih =>
    intro cs h hx
    obtain ⟨x, h0⟩ := hx 0 (by omega)
    simp only [Nat.zero_mul, List.drop_zero] at h0
    obtain ⟨xs, h1, h2⟩ := ih (cs := cs.drop k) (by rw [List.length_drop, h, Nat.add_mul]; omega) (fun i hi => by
      obtain ⟨y, hy⟩ := hx (i + 1) (by omega)
      exact ⟨y, by rw [List.drop_drop, show k + i * k = (i + 1) * k by rw [Nat.add_mul]; omega]; exact hy⟩)
    refine ⟨x :: xs, by simp [h1], ?_⟩
    simp only [List.map_cons, encR]
    rw [← h0, ← h2, List.take_append_drop]
theorem szo_drop {l : List AC} (i : Nat) : SizeOf.sizeOf (l.drop i) ≤ SizeOf.sizeOf l := by
  induction l generalizing i with
  | nil => simp
  | cons a l ih => cases i with
    | zero => simp
    | succ i => have := ih i; simp only [List.drop_succ_cons, List.cons.sizeOf_spec]; omega
theorem szo_take {l : List AC} (i : Nat) : SizeOf.sizeOf (l.take i) ≤ SizeOf.sizeOf l := by
  induction l generalizing i with
  | nil => simp
  | cons a l ih => cases i with
    | zero => simp; omega
    | succ i => have := ih i; simp only [List.take_succ_cons, List.cons.sizeOf_spec]; omega
end Go.Proofs.YtkefgpmnimpcdaaGreatDoor.Abs
