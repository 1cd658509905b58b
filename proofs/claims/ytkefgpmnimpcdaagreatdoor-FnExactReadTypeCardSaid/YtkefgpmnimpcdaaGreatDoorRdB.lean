/- The reader of tokens: the reference's functions as contracts. No condition. -/
import Derived.Test.YtkefgpmnimpcdaaGreatDoorRdA
set_option linter.unusedVariables false
set_option linter.unusedSimpArgs false
namespace Go.Proofs.YtkefgpmnimpcdaaGreatDoor.Abs
open Go
set_option maxHeartbeats 4000000
set_option maxRecDepth 100000
variable (A : List (List (List AC))) (X : List (List AC)) (r : Rd) (Y : List (List AC)) (C : List (List (List AC)))
theorem tk_drop {l : List DToken} {i : Nat} (h : l.length ≤ i) : (tkCs l).drop (i * 3) = [] := List.drop_eq_nil_of_le (by rw [tkCs_len]; omega)
theorem getD_lt2 {l : List DToken} {i : Nat} {d x : DToken} (h : l[i]? = some x) : l.getD i d = x := by rw [List.getD_eq_getElem?_getD, h]; rfl
theorem c_l08At (hr : okR r) (hc : r.code = 0) : Ct Tryz.prog 234 [.ptr A.length X.length 0] (KD A X r Y C) (.int .i64 (hereR r).at_) (KD A X r Y C) := by
  have hcl := tkCs_len r.t
  refine ct_fn { n0 := 3, ex := [], tk := [23, 27] } Tryz.func234 rfl (by kernel_rfl) (by kernel_rfl) rfl ?_
  simp -implicitDefEqProofs [Tryz.f234]
  refine wRun_draw true rfl (by decide +kernel) ?_
  by_cases hov : r.t.length ≤ r.at_
  · have hn : ¬ r.at_ < r.t.length := by omega
    rw [hereR_over hov]
    simp -implicitDefEqProofs [hov, hn, tk0]
  · have hlt : r.at_ < r.t.length := by omega
    obtain ⟨x, hx⟩ : ∃ x, r.t[r.at_]? = some x := ⟨_, List.getElem?_eq_getElem hlt⟩
    have ha := tk_at hx
    rw [hereR_at hc hx]
    simp -implicitDefEqProofs [hov, hlt]
    refine wRun_draw true rfl (by decide +kernel) ?_
    simp -implicitDefEqProofs [hlt, ha, hcl]
theorem c_l08Bad (c : Int) (hr : okR r) : Ct Tryz.prog 158 [.ptr A.length X.length 0, .int .i64 c] (KD A X r Y C) (.tup []) (KD A X (failR r c) Y C) := by
  refine ct_fn { n0 := 4, ex := [], tk := [13, 14] } Tryz.func158 rfl (by kernel_rfl) (by kernel_rfl) rfl ?_
  simp -implicitDefEqProofs [Tryz.f158]
  unfold failR
  by_cases hc : r.code = 0
  · rw [if_pos hc]
    simp -implicitDefEqProofs [hc]
    refine callK_of (c_l08At ([] :: A) X r Y C hr hc) ?_
    simp -implicitDefEqProofs
  · rw [if_neg hc]
    simp -implicitDefEqProofs [hc]
theorem c_l08Is (s : Bs) (hr : okR r) : Ct Tryz.prog 157 [.ptr A.length X.length 0, .str s] (KD A X r Y C) (.bool (isS r s)) (KD A X r Y C) := by
  have hcl := tkCs_len r.t
  generalize hR : isS r s = R
  unfold isS at hR
  refine ct_fn { n0 := 5, ex := [], tk := [] } Tryz.func157 rfl (by kernel_rfl) (by kernel_rfl) rfl ?_
  simp -implicitDefEqProofs [Tryz.f157]
  refine wRun_draw true rfl (by decide +kernel) ?_
  by_cases hc : r.code = 0
  · by_cases hov : r.t.length ≤ r.at_
    · have hn : ¬ r.at_ < r.t.length := by omega
      rw [hereR_over hov] at hR
      simp [tk0] at hR
      simp -implicitDefEqProofs [hc, hov, hn, hcl, tk_drop hov]
      first | exact hR | exact hR.symm
    · have hlt : r.at_ < r.t.length := by omega
      obtain ⟨x, hx⟩ : ∃ x, r.t[r.at_]? = some x := ⟨_, List.getElem?_eq_getElem hlt⟩
      have ha := tk_at hx
      rw [hereR_at hc hx] at hR
      by_cases hk : x.kind = 1
      · simp [hk] at hR
        simp -implicitDefEqProofs [hc, hov, hlt, ha, hcl, hk]
        first | exact hR | exact hR.symm
      · simp [hk] at hR
        simp -implicitDefEqProofs [hc, hov, hlt, ha, hcl, hk]
        first | exact hR | exact hR.symm
  · rw [hereR_bad hc] at hR
    simp [tk0] at hR
    rcases Nat.lt_or_ge r.at_ r.t.length with hlt | hov
    · obtain ⟨x, hx⟩ : ∃ x, r.t[r.at_]? = some x := ⟨_, List.getElem?_eq_getElem hlt⟩
      have ha := tk_at hx
      simp -implicitDefEqProofs [hc, hcl, ha]
      first | exact hR | exact hR.symm
    · simp -implicitDefEqProofs [hc, hcl, tk_drop hov]
      first | exact hR | exact hR.symm
theorem c_l08Kind (kd : Int) (hr : okR r) (hk0 : ¬ kd = 0) : Ct Tryz.prog 235 [.ptr A.length X.length 0, .int .i64 kd] (KD A X r Y C) (.bool (decide ((hereR r).kind = kd))) (KD A X r Y C) := by
  have hcl := tkCs_len r.t
  generalize hR : decide ((hereR r).kind = kd) = R
  refine ct_fn { n0 := 5, ex := [], tk := [] } Tryz.func235 rfl (by kernel_rfl) (by kernel_rfl) rfl ?_
  simp -implicitDefEqProofs [Tryz.f235]
  refine wRun_draw true rfl (by decide +kernel) ?_
  have hk1 : ¬ (0 : Int) = kd := fun h => hk0 h.symm
  by_cases hc : r.code = 0
  · by_cases hov : r.t.length ≤ r.at_
    · have hn : ¬ r.at_ < r.t.length := by omega
      rw [hereR_over hov] at hR
      simp [tk0, hk1] at hR
      simp -implicitDefEqProofs [hc, hov, hn, hcl, tk_drop hov]
      first | exact hR | exact hR.symm
    · have hlt : r.at_ < r.t.length := by omega
      obtain ⟨x, hx⟩ : ∃ x, r.t[r.at_]? = some x := ⟨_, List.getElem?_eq_getElem hlt⟩
      have ha := tk_at hx
      rw [hereR_at hc hx] at hR
      simp -implicitDefEqProofs [hc, hov, hlt, ha, hcl]
      first | exact hR | exact hR.symm
  · rw [hereR_bad hc] at hR
    simp [tk0, hk1] at hR
    rcases Nat.lt_or_ge r.at_ r.t.length with hlt | hov
    · obtain ⟨x, hx⟩ : ∃ x, r.t[r.at_]? = some x := ⟨_, List.getElem?_eq_getElem hlt⟩
      have ha := tk_at hx
      simp -implicitDefEqProofs [hc, hcl, ha]
      first | exact hR | exact hR.symm
    · simp -implicitDefEqProofs [hc, hcl, tk_drop hov]
      first | exact hR | exact hR.symm
theorem c_l08Name (hr : okR r) : Ct Tryz.prog 159 [.ptr A.length X.length 0] (KD A X r Y C) (.str (nameR r).1) (KD A X (nameR r).2 Y C) := by
  have w1 : IntKind.i64.wrap ((r.at_ : Int) + 1) = (r.at_ + 1 : Nat) := by rw [wrap64 (by have := hr.2; omega) (by have := hr.2; omega)]; rfl
  have w0 : IntKind.i64.wrap (r.at_ : Int) = (r.at_ : Nat) := wrap64 (by have := hr.2; omega) (by have := hr.2; omega)
  have w2 : IntKind.i64.wrap (((r.at_ : Int) + 1) - 1) = (r.at_ : Nat) := by rw [wrap64 (by have := hr.2; omega) (by have := hr.2; omega)]; omega
  have hcl := tkCs_len r.t
  refine ct_fn { n0 := 3, ex := [], tk := [4, 7, 26] } Tryz.func159 rfl (by kernel_rfl) (by kernel_rfl) rfl ?_
  simp -implicitDefEqProofs [Tryz.f159]
  refine callK_of (c_l08Kind ([] :: A) X r Y C 2 hr (by decide)) ?_
  unfold nameR
  rw [show decide ((hereR r).kind = 2) = isNmR r from rfl]
  cases hn : isNmR r with
  | true =>
    obtain ⟨hc, hlt⟩ := isNmR_lt hn
    obtain ⟨x, hx⟩ : ∃ x, r.t[r.at_]? = some x := ⟨_, List.getElem?_eq_getElem hlt⟩
    have ha := tk_at hx
    rw [hereR_at hc hx]
    simp -implicitDefEqProofs [w1]
    refine wRun_draw true rfl (by decide +kernel) ?_
    simp -implicitDefEqProofs [nextR, w0, w1, w2, hlt, ha, hcl]
  | false =>
    simp -implicitDefEqProofs
    refine callK_of (c_l08Bad ([] :: A) X r Y C 7 hr) ?_
    simp -implicitDefEqProofs
theorem c_l08End (hr : okR r) : Ct Tryz.prog 59 [.ptr A.length X.length 0] (KD A X r Y C) (.tup []) (KD A X (closeR r) Y C) := by
  refine ct_fn { n0 := 2, ex := [], tk := [13] } Tryz.func59 rfl (by kernel_rfl) (by kernel_rfl) rfl ?_
  simp -implicitDefEqProofs [Tryz.f59]
  refine wRun_draw true rfl (by decide +kernel) ?_
  unfold closeR
  by_cases hov : r.t.length ≤ r.at_
  · have hn : ¬ r.at_ < r.t.length := by omega
    rw [if_pos hov]
    simp -implicitDefEqProofs [hov, hn]
  · have hlt : r.at_ < r.t.length := by omega
    rw [if_neg hov]
    simp -implicitDefEqProofs [hov, hlt]
    refine callK_of (c_l08Bad ([] :: A) X r Y C 7 hr) ?_
    simp -implicitDefEqProofs
end Go.Proofs.YtkefgpmnimpcdaaGreatDoor.Abs
