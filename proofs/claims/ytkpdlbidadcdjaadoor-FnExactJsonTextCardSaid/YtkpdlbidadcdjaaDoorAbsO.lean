/- Regions and code: the weakest precondition is sound. No condition. -/
import Derived.Test.YtkpdlbidadcdjaaDoorAbsN
set_option linter.unusedVariables false
set_option linter.unusedSimpArgs false
namespace Go.Proofs.YtkpdlbidadcdjaaDoor.Abs
open Go
section
variable {P : Program} {fi : FI} {st : St} {dst : Option Nat} {kk : AC → St → Prop} {gd : Option Bool}

theorem un_any {v : AC} {k : AC → Prop} (h : un gd v k) : ∃ u, k u := by
  unfold un at h; split at h
  · exact ⟨_, h.2⟩
  · exact ⟨_, h⟩
  · exact ⟨_, h⟩

theorem wT_any {x : Operand} {k : AC → St → Prop} (h : wT fi false gd st x k) : ∃ u, k u st := by
  unfold wT at h; split at h
  · obtain ⟨u, h⟩ := un_any h
    simp only [Bool.false_and, Bool.false_eq_true, if_false] at h
    exact ⟨_, h⟩
  · exact ⟨_, h⟩

theorem wTs_any {l : List Operand} : ∀ {k : List AC → St → Prop}, wTs fi false gd l st k → ∃ us, k us st := by
  induction l with
  | nil => intro k h; exact ⟨_, h⟩
  | cons x l ih =>
    intro k h
    have h : wT fi false gd st x (fun v st => wTs fi false gd l st fun vs st => k (v :: vs) st) := h
    obtain ⟨u, h⟩ := wT_any h
    obtain ⟨us, h⟩ := ih h
    exact ⟨_, h⟩

theorem intBin_any {op : BinOp} {j j' : IntKind} {x y : Int} {k : AC → Prop} (h : intBin gd op j j' x y k) : ∃ u, k u := by
  unfold intBin at h
  cases op <;> simp only at h <;> first
    | exact ⟨_, h.2.2⟩
    | exact ⟨_, h.2⟩

theorem strBin_any {op : BinOp} {x y : List UInt8} {k : AC → Prop} (h : strBin gd op x y k) : ∃ u, k u := by
  unfold strBin at h
  cases op <;> simp only at h <;> first
    | exact h.elim
    | exact ⟨_, h.2⟩
    | exact ⟨_, h⟩

theorem optInt_any {d : Int} {x : Option Operand} {k : Int → Prop} (h : optInt gd st d x k) : ∃ n, k n := by
  cases x with
  | none => exact ⟨_, h⟩
  | some x =>
    obtain ⟨u, h⟩ := un_any h
    split at h
    · exact ⟨_, h⟩
    · exact h.elim

/-- Where a guarded operation is left out: what follows holds all the same. -/
theorem wDo_any {op : Go.Op} (hg : ¬ gOk gd) (h : wDo P fi false gd dst op st kk) : ∃ av, kk av st := by
  unfold wDo at h
  split at h
  case h_1 x =>
    unfold wD_move at h; split at h
    · simp only [Bool.false_and, Bool.false_eq_true, if_false] at h
      split at h
      · split at h
        · exact ⟨_, h⟩
        · exact ⟨_, h⟩
      · obtain ⟨u, h⟩ := un_any h
        exact ⟨_, h⟩
    · exact ⟨_, h⟩
  case h_2 => exact wT_any h
  case h_3 =>
    obtain ⟨u, h⟩ := un_any h
    split at h
    · obtain ⟨u, h⟩ := un_any h
      obtain ⟨u, h⟩ := un_any h
      exact ⟨_, h⟩
    · exact ⟨_, h.2⟩
    · exact h.elim
  case h_4 => exact absurd h.1 (by simp)
  case h_5 => exact absurd h.1 (by simp)
  case h_6 =>
    obtain ⟨us, h⟩ := wTs_any h
    split at h
    · obtain ⟨_, _, h⟩ := h
      split at h
      · exact ⟨_, h⟩
      · exact h.elim
    · exact h.elim
  case h_7 =>
    obtain ⟨us, h⟩ := wTs_any h
    split at h
    · obtain ⟨_, _, h⟩ := h
      split at h
      · obtain ⟨_, _, h⟩ := h
        split at h
        · exact ⟨_, h.2⟩
        · exact h.elim
      · exact h.elim
    · exact h.elim
  case h_8 =>
    obtain ⟨_, _, h⟩ := h
    obtain ⟨u, h⟩ := un_any h
    split at h
    · split at h
      · obtain ⟨_, h⟩ := h
        simp only [Bool.false_and, Bool.false_eq_true, if_false] at h
        exact ⟨_, h⟩
      · exact h.elim
    · exact ⟨_, h.2⟩
    · obtain ⟨_, h⟩ := h
      split at h
      · obtain ⟨_, _, h⟩ := h
        split at h
        · exact absurd h.1 (by simp)
        · exact ⟨_, h⟩
      · exact h.elim
    · exact h.elim
  case h_9 => exact absurd h.1 (by simp)
  case h_10 =>
    obtain ⟨u, h⟩ := un_any h
    split at h
    · exact ⟨_, h⟩
    · exact ⟨_, h⟩
    · exact ⟨_, h⟩
    · exact h.elim
  case h_11 =>
    unfold wD_binOp at h
    split at h
    · obtain ⟨u, h⟩ := un_any h
      unfold nilCmp at h
      split at h
      · exact ⟨_, h.2 false (fun h => by cases h)⟩
      · exact ⟨_, h.2 true (fun h => by cases h)⟩
      · exact h.elim
    obtain ⟨u, h⟩ := un_any h
    obtain ⟨u, h⟩ := un_any h
    unfold wBin at h
    split at h
    · exact intBin_any h
    · exact strBin_any h
    · split at h
      · exact ⟨_, h⟩
      · exact ⟨_, h⟩
      · exact h.elim
    · exact ⟨_, h.2⟩
    · exact ⟨_, h.2⟩
    · exact h.elim
  case h_12 =>
    obtain ⟨u, h⟩ := un_any h
    split at h
    · exact ⟨_, h⟩
    · exact ⟨_, h⟩
    · exact h.elim
  case h_13 =>
    obtain ⟨u, h⟩ := un_any h
    unfold wConv at h
    split at h
    · exact ⟨_, h⟩
    · exact ⟨_, h⟩
    · split at h
      · exact ⟨_, h.2.2⟩
      · exact h.elim
    · exact h.elim
  case h_14 => exact ⟨_, h.2.2⟩
  case h_15 =>
    obtain ⟨u, h⟩ := un_any h
    obtain ⟨u, h⟩ := un_any h
    split at h
    · obtain ⟨_, _, h⟩ := h
      split at h
      · exact ⟨_, h.2.2.2⟩
      · exact h.elim
    · exact h.elim
  case h_16 =>
    obtain ⟨_, h⟩ := h
    obtain ⟨u, h⟩ := un_any h
    split at h
    · obtain ⟨n, h⟩ := optInt_any h
      obtain ⟨n, h⟩ := optInt_any h
      exact ⟨_, h.2⟩
    · obtain ⟨n, h⟩ := optInt_any h
      obtain ⟨n, h⟩ := optInt_any h
      exact ⟨_, h.2.2⟩
    · exact h.elim
  case h_17 =>
    unfold wD_fieldAddr at h
    split at h
    · split at h
      · obtain ⟨_, h⟩ := h
        obtain ⟨u, h⟩ := un_any h
        split at h
        · exact ⟨_, h⟩
        · exact ⟨_, h.2⟩
        · exact ⟨_, h⟩
        · exact h.elim
      · exact h.elim
    · exact h.elim
  case h_18 =>
    unfold wD_field at h
    split at h
    · split at h
      · obtain ⟨_, _, _, h⟩ := h
        obtain ⟨u, h⟩ := un_any h
        split at h
        · exact ⟨_, h.2⟩
        · exact absurd h.2.1 (by simp)
        · exact h.elim
      · exact h.elim
    · exact h.elim
  case h_19 =>
    obtain ⟨u, h⟩ := un_any h
    obtain ⟨u, h⟩ := un_any h
    split at h
    · exact ⟨_, h.2.2.2.2⟩
    · exact ⟨_, h.2.2⟩
    · exact h.elim
  case h_20 =>
    obtain ⟨u, h⟩ := un_any h
    obtain ⟨u, h⟩ := un_any h
    split at h
    · exact ⟨_, h.2⟩
    · exact h.elim
  case h_21 =>
    obtain ⟨u, h⟩ := un_any h
    split at h
    · split at h
      · simp only [Bool.false_and, Bool.false_eq_true, if_false] at h
        exact ⟨_, h⟩
      · exact h.elim
    · exact h.elim
  case h_22 =>
    unfold wD_call wCall at h
    split at h
    · obtain ⟨u, h⟩ := un_any h
      split at h
      · simp only [Bool.false_and, Bool.false_eq_true, if_false] at h
        obtain ⟨us, h⟩ := wTs_any h
        unfold callK at h
        simp only [Bool.false_eq_true, if_false] at h
        obtain ⟨r, _, h⟩ := h
        exact ⟨_, h⟩
      · exact h.elim
    · unfold wBuiltin at h
      split at h
      · obtain ⟨u, h⟩ := un_any h
        unfold wLen at h
        split at h
        · exact ⟨_, h fun e => absurd e hg⟩
        · exact ⟨_, h fun e => absurd e hg⟩
        · exact ⟨_, h fun e => absurd e hg⟩
        · exact h.elim
      · exact absurd h.1 (by simp)
      · exact h.elim
    · exact h.elim
  case h_23 => exact h.elim
end
end Go.Proofs.YtkpdlbidadcdjaaDoor.Abs
