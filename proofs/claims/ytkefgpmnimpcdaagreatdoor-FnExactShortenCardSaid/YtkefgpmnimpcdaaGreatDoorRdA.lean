/- The reader of tokens: what it does, in plain Lean; the program's methods as contracts. No condition. -/
import Derived.Test.YtkefgpmnimpcdaaGreatDoorTkM
import Derived.Test.YtkefgpmnimpcdaaGreatDoorEsc
set_option linter.unusedVariables false
set_option linter.unusedSimpArgs false
namespace Go.Proofs.YtkefgpmnimpcdaaGreatDoor.Abs
open Go
set_option maxHeartbeats 4000000
set_option maxRecDepth 100000
structure Rd where
  t : List DToken
  at_ : Nat
  end_ : Nat
  code : Int
  fat : Int
def tk0 (e : Nat) : DToken := ⟨0, [], e⟩
def hereR (r : Rd) : DToken := if r.code = 0 then r.t.getD r.at_ (tk0 r.end_) else tk0 r.end_
def failR (r : Rd) (c : Int) : Rd := if r.code = 0 then { r with code := c, fat := (hereR r).at_ } else r
def isS (r : Rd) (s : Bs) : Bool := decide ((hereR r).kind = 1) && decide ((hereR r).text = s)
def isNmR (r : Rd) : Bool := decide ((hereR r).kind = 2)
def nextR (r : Rd) : Rd := { r with at_ := r.at_ + 1 }
def nameR (r : Rd) : Bs × Rd := if isNmR r then ((hereR r).text, nextR r) else ([], failR r 7)
def closeR (r : Rd) : Rd := if r.t.length ≤ r.at_ then r else failR r 7
def okR (r : Rd) : Prop := r.t.length ≤ 2500 ∧ r.at_ ≤ 10000
theorem hereR_over {r : Rd} (h : r.t.length ≤ r.at_) : hereR r = tk0 r.end_ := by
  unfold hereR; split
  · rw [List.getD_eq_getElem?_getD, List.getElem?_eq_none h]; rfl
  · rfl
theorem hereR_bad {r : Rd} (h : ¬ r.code = 0) : hereR r = tk0 r.end_ := by unfold hereR; rw [if_neg h]
theorem hereR_at {r : Rd} {x : DToken} (hc : r.code = 0) (h : r.t[r.at_]? = some x) : hereR r = x := by
  unfold hereR; rw [if_pos hc, List.getD_eq_getElem?_getD, h]; rfl
theorem isS_lt {r : Rd} {s : Bs} (h : isS r s = true) : r.code = 0 ∧ r.at_ < r.t.length := by
  unfold isS at h
  rw [Bool.and_eq_true, decide_eq_true_eq] at h
  by_cases hc : r.code = 0
  · refine ⟨hc, ?_⟩
    rcases Nat.lt_or_ge r.at_ r.t.length with hl | hl
    · exact hl
    · rw [hereR_over hl] at h; exact absurd h.1 (by simp [tk0])
  · rw [hereR_bad hc] at h; exact absurd h.1 (by simp [tk0])
theorem isNmR_lt {r : Rd} (h : isNmR r = true) : r.code = 0 ∧ r.at_ < r.t.length := by
  unfold isNmR at h
  rw [decide_eq_true_eq] at h
  by_cases hc : r.code = 0
  · refine ⟨hc, ?_⟩
    rcases Nat.lt_or_ge r.at_ r.t.length with hl | hl
    · exact hl
    · rw [hereR_over hl] at h; exact absurd h (by simp [tk0])
  · rw [hereR_bad hc] at h; exact absurd h (by simp [tk0])
theorem failR_t {r : Rd} {c : Int} : (failR r c).t = r.t ∧ (failR r c).at_ = r.at_ ∧ (failR r c).end_ = r.end_ := by
  unfold failR; split <;> exact ⟨rfl, rfl, rfl⟩
theorem failR_ok {r : Rd} {c : Int} (h : okR r) : okR (failR r c) := by
  unfold okR at *; rw [failR_t.1, failR_t.2.1]; exact h
theorem failR_code {r : Rd} {c : Int} (hc : ¬ c = 0) : ¬ (failR r c).code = 0 := by
  unfold failR; split
  · exact hc
  · assumption
theorem tk_at {l : List DToken} {i : Nat} {x : DToken} (h : l[i]? = some x) : ((tkCs l).drop (i * 3)).take 3 = [.int .i64 x.kind, .str x.text, .int .i64 x.at_] := by
  induction l generalizing i with
  | nil => simp at h
  | cons y l ih =>
    cases i with
    | zero => simp at h; subst h; rfl
    | succ i =>
      rw [show (i + 1) * 3 = i * 3 + 1 + 1 + 1 by omega]
      simp only [tkCs, List.drop_succ_cons]
      exact ih (by simpa using h)
/-- A reader's cells. -/
def rdC (r : Rd) : List AC := [.sl .no r.t.length (tkCs r.t), .int .i64 r.at_, .int .i64 r.end_, .int .i64 r.code, .int .i64 r.fat]
/-- Frames, in one of which lies a reader. -/
def KD (A : List (List (List AC))) (X : List (List AC)) (r : Rd) (Y : List (List AC)) (C : List (List (List AC))) : List (List (List AC)) := A ++ (X ++ [.sl .no r.t.length (tkCs r.t), .int .i64 r.at_, .int .i64 r.end_, .int .i64 r.code, .int .i64 r.fat] :: Y) :: C
@[simp] theorem KD_cons {B A X r Y C} : KD (B :: A) X r Y C = B :: KD A X r Y C := rfl
@[simp] theorem KD_get {A X r Y C} : (KD A X r Y C)[A.length]? = some (X ++ [.sl .no r.t.length (tkCs r.t), .int .i64 r.at_, .int .i64 r.end_, .int .i64 r.code, .int .i64 r.fat] :: Y) := by
  unfold KD; rw [List.getElem?_append_right (Nat.le_refl _)]; simp
@[simp] theorem KD_x {X : List (List AC)} {c : List AC} {Y : List (List AC)} : (X ++ c :: Y)[X.length]? = some c := by
  rw [List.getElem?_append_right (Nat.le_refl _)]; simp
@[simp] theorem KD_sx {X : List (List AC)} {c d : List AC} {Y : List (List AC)} : (X ++ c :: Y).set X.length d = X ++ d :: Y := by
  rw [List.set_append_right _ _ (Nat.le_refl _)]; simp
@[simp] theorem KD_setA {A X r Y C} {k : Nat} : (KD A X r Y C).set A.length (X ++ [.sl .no r.t.length (tkCs r.t), .int .i64 k, .int .i64 r.end_, .int .i64 r.code, .int .i64 r.fat] :: Y) = KD A X { r with at_ := k } Y C := by
  unfold KD; rw [List.set_append_right _ _ (Nat.le_refl _)]; simp
@[simp] theorem KD_set1 {A X r Y C} : (KD A X r Y C).set A.length (X ++ [.sl .no r.t.length (tkCs r.t), .int .i64 ((r.at_ : Int) + 1), .int .i64 r.end_, .int .i64 r.code, .int .i64 r.fat] :: Y) = KD A X (nextR r) Y C := by
  unfold KD nextR; rw [List.set_append_right _ _ (Nat.le_refl _)]; simp
@[simp] theorem KD_setF {A X r Y C} {c a : Int} : (KD A X r Y C).set A.length (X ++ [.sl .no r.t.length (tkCs r.t), .int .i64 r.at_, .int .i64 r.end_, .int .i64 c, .int .i64 a] :: Y) = KD A X { r with code := c, fat := a } Y C := by
  unfold KD; rw [List.set_append_right _ _ (Nat.le_refl _)]; simp
variable (A : List (List (List AC))) (X : List (List AC)) (r : Rd) (Y : List (List AC)) (C : List (List (List AC)))
theorem c_bad : Ct Tryz.prog 63 [.ptr A.length X.length 0] (KD A X r Y C) (.bool (!decide (r.code = 0))) (KD A X r Y C) := by
  refine ct_fn { n0 := 3, ex := [], tk := [] } Tryz.func63 rfl (by kernel_rfl) (by kernel_rfl) rfl ?_
  simp -implicitDefEqProofs [Tryz.f63]
theorem c_over (hr : okR r) : Ct Tryz.prog 165 [.ptr A.length X.length 0] (KD A X r Y C) (.bool (decide (r.t.length ≤ r.at_))) (KD A X r Y C) := by
  refine ct_fn { n0 := 3, ex := [], tk := [] } Tryz.func165 rfl (by kernel_rfl) (by kernel_rfl) rfl ?_
  simp -implicitDefEqProofs [Tryz.f165]
  refine wRun_draw true rfl (by decide +kernel) ?_
  simp -implicitDefEqProofs
theorem c_here (hr : okR r) : Ct Tryz.prog 169 [.ptr A.length X.length 0] (KD A X r Y C) (tkC (hereR r)) (KD A X r Y C) := by
  have hcl := tkCs_len r.t
  refine ct_fn { n0 := 3, ex := [], tk := [4, 7, 13, 23] } Tryz.func169 rfl (by kernel_rfl) (by kernel_rfl) rfl ?_
  simp -implicitDefEqProofs [Tryz.f169]
  refine callK_of (c_over ([[.int .i64 0, .str [], .int .i64 0]] :: A) X r Y C hr) ?_
  by_cases hov : r.t.length ≤ r.at_
  · rw [hereR_over hov]
    simp -implicitDefEqProofs [hov]
    refine callK_still (r := .bool false) (fun h => absurd h (by simp)) ?_
    simp -implicitDefEqProofs (maxDischargeDepth := 6) [tkC, tk0, AC.le_agg]
  · simp -implicitDefEqProofs [hov]
    refine callK_still (fun _ => c_bad ([[.int .i64 0, .str [], .int .i64 0]] :: A) X r Y C) ?_
    by_cases hc : r.code = 0
    · obtain ⟨x, hx⟩ : ∃ x, r.t[r.at_]? = some x := ⟨_, List.getElem?_eq_getElem (by omega)⟩
      have ha := tk_at hx
      have hlt : r.at_ < r.t.length := by omega
      rw [hereR_at hc hx]
      simp -implicitDefEqProofs [hc]
      refine wRun_draw true rfl (by decide +kernel) ?_
      simp -implicitDefEqProofs (maxDischargeDepth := 6) [hlt, ha, hcl, tkC, AC.le_agg]
    · rw [hereR_bad hc]
      simp -implicitDefEqProofs (maxDischargeDepth := 6) [hc, tkC, tk0, AC.le_agg]
theorem c_isSign (s : Bs) (hr : okR r) : Ct Tryz.prog 161 [.ptr A.length X.length 0, .str s] (KD A X r Y C) (.bool (isS r s)) (KD A X r Y C) := by
  refine ct_fn { n0 := 6, ex := [], tk := [7] } Tryz.func161 rfl (by kernel_rfl) (by kernel_rfl) rfl ?_
  simp -implicitDefEqProofs [Tryz.f161]
  refine callK_of (c_here ([] :: A) X r Y C hr) ?_
  unfold isS
  simp -implicitDefEqProofs [tkC]
theorem c_isName (hr : okR r) : Ct Tryz.prog 236 [.ptr A.length X.length 0] (KD A X r Y C) (.bool (isNmR r)) (KD A X r Y C) := by
  refine ct_fn { n0 := 3, ex := [], tk := [4] } Tryz.func236 rfl (by kernel_rfl) (by kernel_rfl) rfl ?_
  simp -implicitDefEqProofs [Tryz.f236]
  refine callK_of (c_here ([] :: A) X r Y C hr) ?_
  unfold isNmR
  simp -implicitDefEqProofs [tkC]
theorem c_fail (c : Int) (hr : okR r) : Ct Tryz.prog 162 [.ptr A.length X.length 0, .int .i64 c] (KD A X r Y C) (.tup []) (KD A X (failR r c) Y C) := by
  refine ct_fn { n0 := 4, ex := [], tk := [5, 10, 12] } Tryz.func162 rfl (by kernel_rfl) (by kernel_rfl) rfl ?_
  simp -implicitDefEqProofs [Tryz.f162]
  refine callK_of (c_bad ([] :: A) X r Y C) ?_
  unfold failR
  by_cases hc : r.code = 0
  · rw [if_pos hc]
    simp -implicitDefEqProofs [hc]
    refine callK_of (c_here ([] :: A) X r Y C hr) ?_
    simp -implicitDefEqProofs [tkC]
  · rw [if_neg hc]
    simp -implicitDefEqProofs [hc]
theorem c_name (hr : okR r) : Ct Tryz.prog 163 [.ptr A.length X.length 0] (KD A X r Y C) (.str (nameR r).1) (KD A X (nameR r).2 Y C) := by
  have w1 : IntKind.i64.wrap ((r.at_ : Int) + 1) = (r.at_ + 1 : Nat) := by rw [wrap64 (by have := hr.2; omega) (by have := hr.2; omega)]; rfl
  refine ct_fn { n0 := 4, ex := [], tk := [5, 8, 10, 19] } Tryz.func163 rfl (by kernel_rfl) (by kernel_rfl) rfl ?_
  simp -implicitDefEqProofs [Tryz.f163]
  refine callK_of (c_isName ([] :: A) X r Y C hr) ?_
  unfold nameR
  cases isNmR r with
  | true =>
    simp -implicitDefEqProofs
    refine callK_of (c_here ([] :: A) X r Y C hr) ?_
    simp -implicitDefEqProofs [tkC, w1]
  | false =>
    simp -implicitDefEqProofs
    refine callK_of (c_fail ([] :: A) X r Y C 7 hr) ?_
    simp -implicitDefEqProofs
theorem c_close (hr : okR r) : Ct Tryz.prog 62 [.ptr A.length X.length 0] (KD A X r Y C) (.tup []) (KD A X (closeR r) Y C) := by
  refine ct_fn { n0 := 2, ex := [], tk := [3, 6] } Tryz.func62 rfl (by kernel_rfl) (by kernel_rfl) rfl ?_
  simp -implicitDefEqProofs [Tryz.f62]
  refine callK_of (c_over ([] :: A) X r Y C hr) ?_
  unfold closeR
  by_cases hov : r.t.length ≤ r.at_
  · rw [if_pos hov]
    simp -implicitDefEqProofs [hov]
  · rw [if_neg hov]
    simp -implicitDefEqProofs [hov]
    refine callK_of (c_fail ([] :: A) X r Y C 7 hr) ?_
    simp -implicitDefEqProofs
end Go.Proofs.YtkefgpmnimpcdaaGreatDoor.Abs
