/- FnExactCompatible: the row. No condition. -/
import Derived.Test.YtdfmnobckmakiaaL2
import Derived.Test.YtdfmnobckmakiaaRows
set_option linter.unusedVariables false
namespace Go.Proofs.Ytdfmnobckmakiaa.Abs
open Go

theorem typed_str {P : Program} {t : TypeId} {cells : List AC} (hu : P.underlying t = some .string) (h : Typed P t cells) : ∃ s, cells = [.str s] ∧ s.length ≤ reachBytes := by
  cases h with
  | str h1 h2 => exact ⟨_, rfl, h2⟩
  | bool h1 => rw [hu] at h1; cases h1
  | int h1 _ => rw [hu] at h1; cases h1
  | slice h1 => rw [hu] at h1; cases h1
  | struct h1 => rw [hu] at h1; cases h1

theorem typed_fields {P : Program} {t : TypeId} {cells : List AC} {l : List (Nat × Nat × TypeId)} (ht : tdOf P t = .struct l) (h : Typed P t cells) :
    cells.length = P.cellsOf t ∧ ∀ x ∈ l, Typed P x.2.2 ((cells.drop x.1).take x.2.1) := by
  unfold tdOf at ht
  cases h with
  | str h1 h2 => rw [h1] at ht; cases ht
  | bool h1 => rw [h1] at ht; cases ht
  | int h1 _ => rw [h1] at ht; cases ht
  | slice h1 => rw [h1] at ht; cases ht
  | struct h1 h2 h3 =>
    rw [h1] at ht
    simp only [TD.struct.injEq] at ht
    refine ⟨h2, fun x hx => ?_⟩
    rw [← ht] at hx
    obtain ⟨f, hm, rfl⟩ := List.mem_map.1 hx
    exact h3 f hm

theorem typed_25 {a : AC} (h : TypedV Try.prog 25 a) : ∃ n w, a = .agg [.str n, .str w] := by
  cases h with
  | one h1 _ =>
    have := td25
    unfold tdOf at this
    split at this
    all_goals first | (cases this; done) | (rename_i hu; exact absurd hu (h1 _))
  | agg h1 h2 =>
    rename_i cells
    obtain ⟨h4, get⟩ := typed_fields td25 h2
    rw [sz25] at h4
    have u9 : Try.prog.underlying 9 = some .string := by kernel_rfl
    obtain ⟨s, e1, _⟩ := typed_str u9 (get (0, 1, 9) (by simp))
    obtain ⟨r, e2, _⟩ := typed_str u9 (get (1, 1, 9) (by simp))
    refine ⟨s, r, ?_⟩
    cases cells with
    | nil => cases h4
    | cons c l =>
      cases l with
      | nil => cases h4
      | cons d l =>
        cases l with
        | nil => simp at e1 e2; rw [e1, e2]
        | cons e l => simp at h4

theorem own : ownKnob Try.prog.godebug = none := by kernel_rfl
set_option maxRecDepth 100000 in
theorem lifted2 (os : Os) (started : os.Started) (H : Type) (enc : TypeId × Value → H) :
    ReturnsInHanded {} Try.checked os 4 .any (Rows.fnExactCompatibleSpec.pre6 enc Try.prog Try.f4 Rows.fnExactCompatibleRow.domain false) (Rows.fnExactCompatibleSpec.post enc Try.prog Try.f4 false true false false) := by
  refine law_returns (C := Try.checked) [9, 25] own started (by kernel_rfl) Try.func4
    (ChangeSpec.witness6 (enc := enc) (C := Try.checked) false ⟨#[], #[.agg #[.string ⟨#[]⟩, .string ⟨#[]⟩], .agg #[.string ⟨#[]⟩, .string ⟨#[]⟩]], []⟩ 8 (by kernel_rfl) (by kernel_rfl) (by kernel_rfl) (by kernel_rfl))
    rfl rfl (fun ds hds => ?_) rfl Try.underlying4 (by kernel_rfl) (by kernel_rfl) (by kernel_rfl) (fun args h => ?_)
  · have hds : ds.length = 2 := hds
    match ds, hds with
    | [a, b], _ => rfl
  · have h : TypedVs Try.prog [25, 25] args := h
    cases h with
    | cons h1 h2 =>
      cases h2 with
      | cons h2 h3 =>
        cases h3
        obtain ⟨n, w, rfl⟩ := typed_25 h1
        obtain ⟨m, v, rfl⟩ := typed_25 h2
        exact c_law n w m v
theorem over2 : Rows.fnExactCompatibleRow.holds Try.pinned (OpenSpec.ofChange Rows.fnExactCompatibleSpec) :=
  OpenClaim.holds_of_wide 4 Try.f4 rfl rfl rfl rfl rfl rfl rfl ⟨rfl, rfl, rfl, rfl, rfl⟩ rfl rfl rfl rfl rfl (by kernel_rfl) Try.func4 (by kernel_rfl)
    (of_decide_eq_true (by kernel_rfl)) (by unfold Func.isWrapper; first | (rw [if_pos (by decide +kernel)]; kernel_rfl) | (rw [if_neg (by decide +kernel)]; exact ⟨rfl, rfl⟩))
    (fun os started H enc _ => lifted2 os started H enc)
end Go.Proofs.Ytdfmnobckmakiaa.Abs
namespace Go.Proofs.Ytdfmnobckmakiaa
/-- The row, under a short name, for the claim. -/
theorem fnExactCompatible_holds : Rows.FnExactCompatibleSaid := Abs.over2
#print axioms fnExactCompatible_holds
end Go.Proofs.Ytdfmnobckmakiaa
