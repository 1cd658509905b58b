/- Types: suffixes, wrappings, what is compatible. No condition. -/
import Derived.Test.YtcgkcbmhjbbjmaaFStr
import Derived.Test.YtcgkcbmhjbbjmaaLend
set_option linter.unusedVariables false
set_option linter.unusedSimpArgs false
namespace Go.Proofs.Ytcgkcbmhjbbjmaa.Abs
open Go
set_option maxHeartbeats 1000000
set_option maxRecDepth 100000
/-- Does s end with t? -/
def hasSuf (s t : List UInt8) : Bool := decide (t.length ≤ s.length) && decide (s.drop (s.length - t.length) = t)
theorem c_NeededS (n w : List UInt8) (K) : Ct Try.prog 96 [.agg [.str n, .str w]] K (.bool (hasSuf w [33])) K := by
  refine ct_fn { n0 := 5, ex := [], tk := [] } Try.func96 rfl (by kernel_rfl) (by kernel_rfl) rfl ?_
  simp -implicitDefEqProofs [Try.f96]
  intro h1 _
  unfold maxLen at *
  rw [wrap64 (by omega) (by omega)]
  refine ⟨fun h => by omega, ?_⟩
  unfold hasSuf
  by_cases hw : 0 < w.length
  · have e : w.drop (w.length - 1) = [w[w.length - 1]] := by
      rw [List.drop_eq_getElem_cons (by omega)]
      simp [show w.length - 1 + 1 = w.length by omega]
    have e2 : ((w.length : Int) - 1).toNat = w.length - 1 := by omega
    have e3 : w[w.length - 1]? = some w[w.length - 1] := List.getElem?_eq_getElem (by omega)
    simp only [List.length_cons, List.length_nil, Nat.zero_add, e, e2, e3, Option.getD_some]
    have : ((w[w.length - 1]).toNat : Int) = 33 ↔ w[w.length - 1] = 33 := by
      rw [← UInt8.toNat_inj]; show _ ↔ _ = 33; omega
    simp [this, show 1 ≤ w.length from hw, hw]
  · have e : w = [] := List.eq_nil_of_length_eq_zero (by omega)
    subst e; simp
theorem c_liteHasSuffix (s t : List UInt8) (K) : Ct Try.prog 154 [.str s, .str t] K (.bool (hasSuf s t)) K := by
  refine ct_fn { n0 := 5, ex := [], tk := [] } Try.func154 rfl (by kernel_rfl) (by kernel_rfl) rfl ?_
  simp -implicitDefEqProofs [ Try.f154]
  intro h1 h2 _ _
  unfold maxLen at *
  rw [wrap64 (by omega) (by omega)]
  refine ⟨fun h => by omega, ?_⟩
  unfold hasSuf
  by_cases h : t.length ≤ s.length
  · rw [show ((s.length : Int) - t.length).toNat = s.length - t.length by omega]
  · simp [h]
def cut (s t : List UInt8) : List UInt8 × Bool := if hasSuf s t then (s.take (s.length - t.length), true) else (s, false)
theorem hasSuf_le {s t : List UInt8} (h : hasSuf s t = true) : t.length ≤ s.length := by
  simp only [hasSuf, Bool.and_eq_true, decide_eq_true_eq] at h; exact h.1
theorem c_liteCutSuffix (s t : List UInt8) (K) : Ct Try.prog 183 [.str s, .str t] K (.tup [.str (cut s t).1, .bool (cut s t).2]) K := by
  refine ct_fn { n0 := 6, ex := [], tk := [] } Try.func183 rfl (by kernel_rfl) (by kernel_rfl) rfl ?_
  simp -implicitDefEqProofs [Try.f183]
  refine callK_of (c_liteHasSuffix s t _) ?_
  simp -implicitDefEqProofs 
  refine ⟨fun h => by simp [cut, h], fun h h1 h2 => ?_⟩
  have hl := hasSuf_le h
  unfold maxLen at *
  rw [wrap64 (by omega) (by omega)]
  refine ⟨by omega, ?_⟩
  simp only [cut, h, if_true]
  rw [show ((s.length : Int) - t.length).toNat = s.length - t.length by omega]
  exact ⟨rfl, trivial⟩
theorem c_CutSuffix (s t : List UInt8) (K) : Ct Try.prog 155 [.str s, .str t] K (.tup [.str (cut s t).1, .bool (cut s t).2]) K := by
  refine ct_fn { n0 := 6, ex := [], tk := [] } Try.func155 rfl (by kernel_rfl) (by kernel_rfl) rfl ?_
  simp -implicitDefEqProofs [Try.f155]
  refine callK_of (c_liteCutSuffix s t _) ?_
  simp -implicitDefEqProofs 
theorem c_unwrapped (n w t : List UInt8) (K) : Ct Try.prog 137 [.agg [.str n, .str w], .str t] K (.tup [.agg [.str n, .str (cut w t).1], .bool (cut w t).2]) K := by
  refine ct_fn { n0 := 8, ex := [], tk := [] } Try.func137 rfl (by kernel_rfl) (by kernel_rfl) rfl ?_
  simp -implicitDefEqProofs [Try.f137]
  refine callK_of (c_CutSuffix w t _) ?_
  simp -implicitDefEqProofs 
def compat (e : Bool) (w v : List UInt8) : Bool :=
  if hv : hasSuf v [33] = true then (if hw : hasSuf w [33] = true then compat e (w.take (w.length - 1)) (v.take (v.length - 1)) else false)
  else if hw : hasSuf w [33] = true then compat e (w.take (w.length - 1)) v
  else if hb : hasSuf w [93] = true ∧ hasSuf v [93] = true then compat e (w.take (w.length - 1)) (v.take (v.length - 1))
  else decide (w = []) && decide (v = []) && e
termination_by w.length + v.length
decreasing_by
  all_goals first
    | (have := hasSuf_le hw; simp at this; simp; omega)
    | (have := hasSuf_le hb.1; simp at this; simp; omega)
theorem cut_snd (s t : List UInt8) : (cut s t).2 = hasSuf s t := by unfold cut; split <;> simp [*]
theorem cut_fst {s t : List UInt8} (h : hasSuf s t = true) : (cut s t).1 = s.take (s.length - t.length) := by simp [cut, h]
theorem cut_fst_not {s t : List UInt8} (h : hasSuf s t = false) : (cut s t).1 = s := by simp [cut, h]
theorem c_Compatible (n m : List UInt8) : ∀ (k : Nat) (w v : List UInt8) (K), w.length + v.length < k → Ct Try.prog 102 [.agg [.str n, .str w], .agg [.str m, .str v]] K (.bool (compat (decide (n = m)) w v)) K := by
  intro k
  induction k with
  | zero => intro w v K h; omega
  | succ k ih =>
    intro w v K hk
    refine ct_fn { n0 := 11, ex := [], tk := [] } Try.func102 rfl (by kernel_rfl) (by kernel_rfl) rfl ?_
    simp -implicitDefEqProofs [Try.f102]
    refine callK_of (c_unwrapped n w _ _) ?_
    simp -implicitDefEqProofs
    refine callK_of (c_unwrapped m v _ _) ?_
    simp -implicitDefEqProofs
    simp only [cut_snd]
    refine ⟨fun h1 => ?_, fun h1 => ?_⟩
    · have l1 := hasSuf_le h1
      simp at l1
      refine callK_still (r := .bool (compat (decide (n = m)) (cut w [33]).1 (cut v [33]).1)) (fun hg => ?_) ?_
      · exact ih _ _ _ (by
          have hg : hasSuf w [33] = true := hg
          have := hasSuf_le hg
          rw [cut_fst hg, cut_fst h1]; simp at *; omega)
      · simp -implicitDefEqProofs
        conv => lhs; unfold compat
        rw [dif_pos h1]
        by_cases hw : hasSuf w [33] = true
        · rw [dif_pos hw, hw, cut_fst hw, cut_fst h1]; simp
        · rw [dif_neg hw]; simp [hw]
    · refine ⟨fun h2 => ?_, fun h2 => ?_⟩
      · refine callK_of (ih _ _ _ (by
          have := hasSuf_le h2
          rw [cut_fst h2]; simp at *; omega)) ?_
        simp -implicitDefEqProofs
        conv => lhs; unfold compat
        rw [dif_neg (by simp [h1]), dif_pos h2, cut_fst h2]; simp
      · refine callK_of (c_unwrapped n w _ _) ?_
        simp -implicitDefEqProofs
        refine callK_of (c_unwrapped m v _ _) ?_
        simp -implicitDefEqProofs
        simp only [cut_snd]
        refine ⟨fun h3 h4 => ?_, fun h3 => ?_⟩
        · refine callK_of (ih _ _ _ (by
            have := hasSuf_le h3; have := hasSuf_le h4
            rw [cut_fst h3, cut_fst h4]; simp at *; omega)) ?_
          simp -implicitDefEqProofs
          conv => lhs; unfold compat
          rw [dif_neg (by simp [h1]), dif_neg (by simp [h2]), dif_pos ⟨h3, h4⟩, cut_fst h3, cut_fst h4]; simp
        · conv => lhs; unfold compat
          rw [dif_neg (by simp [h1]), dif_neg (by simp [h2]), dif_neg (by rintro ⟨a, b⟩; simp [h3 a] at b)]
theorem hasSuf_one {s : List UInt8} {b : UInt8} : hasSuf s [b] = true ↔ 0 < s.length ∧ ((s[s.length - 1]?.getD 0).toNat : Int) = b.toNat := by
  unfold hasSuf
  by_cases hw : 0 < s.length
  · have e : s.drop (s.length - 1) = [s[s.length - 1]] := by
      rw [List.drop_eq_getElem_cons (by omega)]
      simp [show s.length - 1 + 1 = s.length by omega]
    have e3 : s[s.length - 1]? = some s[s.length - 1] := List.getElem?_eq_getElem (by omega)
    simp only [List.length_cons, List.length_nil, Nat.zero_add, e, e3, Option.getD_some]
    have : ((s[s.length - 1]).toNat : Int) = b.toNat ↔ s[s.length - 1] = b := by
      rw [← UInt8.toNat_inj]; omega
    simp [this, show 1 ≤ s.length from hw, hw]
  · have e : s = [] := List.eq_nil_of_length_eq_zero (by omega)
    subst e; simp
theorem c_CompatibleS (n w m v : List UInt8) (K) : Ct Try.prog 97 [.agg [.str n, .str w], .agg [.str m, .str v]] K (.bool (compat (decide (n = m)) w v)) K := by
  refine ct_fn { n0 := 7, ex := [], tk := [] } Try.func97 rfl (by kernel_rfl) (by kernel_rfl) rfl ?_
  simp -implicitDefEqProofs [Try.f97]
  refine wC_loop (fun k s => ∃ w' v' : List UInt8, k = w'.length + v'.length ∧ compat (decide (n = m)) w' v' = compat (decide (n = m)) w v ∧
    s = { env := [(0, .agg [.str n, .str w]), (1, .agg [.str m, .str v]), (2, .ptr 0 0 0), (3, .ptr 0 1 0), (4, .bool false)], loc := [], K := [[.str n, .str w'], [.str m, .str v']] :: K })
    (w.length + v.length) _ (St.le_of (by simp) (by simp) rfl rfl) ⟨w, v, rfl, rfl, rfl⟩ ?_
  rintro k _ ⟨w', v', rfl, he, rfl⟩
  simp -implicitDefEqProofs
  intro hw hv
  refine callK_of (c_NeededS m v' _) ?_
  simp -implicitDefEqProofs
  refine ⟨fun h1 => ?_, fun h1 => ?_⟩
  · refine callK_of (c_NeededS n w' _) ?_
    simp -implicitDefEqProofs
    refine ⟨fun h2 => ?_, fun h2 => ?_⟩
    · rw [← he]; unfold compat; rw [dif_pos h1, dif_neg (by simp [h2])]
    · have l1 := hasSuf_le h1
      have l2 := hasSuf_le h2
      unfold maxLen at *
      simp at l1 l2
      rw [wrap64 (by omega) (by omega), wrap64 (by omega) (by omega)]
      refine ⟨by omega, by omega, ?_⟩
      rw [show ((w'.length : Int) - 1).toNat = w'.length - 1 by omega, show ((v'.length : Int) - 1).toNat = v'.length - 1 by omega]
      refine ⟨(w'.take (w'.length - 1)).length + (v'.take (v'.length - 1)).length, by simp; omega, _, St.le_of ?_ ?_ ?_ ?_, _, _, rfl, ?_, rfl⟩
      · simp
      · simp [St.trunc, look, killP, mapV, mapC]
      · rfl
      · simp [St.trunc, mapC]
      · rw [← he]; conv => rhs; unfold compat
        rw [dif_pos h1, dif_pos h2]
  · refine callK_of (c_NeededS n w' _) ?_
    simp -implicitDefEqProofs
    unfold maxLen at *
    refine ⟨fun h2 => ?_, fun h2 => ?_⟩
    · have l2 := hasSuf_le h2
      simp at l2
      rw [wrap64 (by omega) (by omega)]
      refine ⟨by omega, ?_⟩
      rw [show ((w'.length : Int) - 1).toNat = w'.length - 1 by omega]
      refine ⟨(w'.take (w'.length - 1)).length + v'.length, by simp; omega, _, St.le_of ?_ ?_ ?_ ?_, _, _, rfl, ?_, rfl⟩
      · simp
      · simp [St.trunc, look, killP, mapV, mapC]
      · rfl
      · simp [St.trunc, mapC]
      · rw [← he]; conv => rhs; unfold compat
        rw [dif_neg (by simp [h1]), dif_pos h2]
    · rw [wrap64 (by omega) (by omega), wrap64 (by omega) (by omega)]
      have e1 : 0 < w'.length → ((w'.length : Int) - 1).toNat = w'.length - 1 := by omega
      have e2 : 0 < v'.length → ((v'.length : Int) - 1).toNat = v'.length - 1 := by omega
      refine ⟨by omega, by omega, fun l1 l2 h3 h4 => ⟨by omega, by omega, ?_⟩, fun h3 => ?_⟩
      · rw [e1 l1] at h3; rw [e2 l2] at h4
        have h3 : hasSuf w' [93] = true := hasSuf_one.2 ⟨l1, h3⟩
        have h4 : hasSuf v' [93] = true := hasSuf_one.2 ⟨l2, h4⟩
        rw [e1 l1, e2 l2]
        refine ⟨(w'.take (w'.length - 1)).length + (v'.take (v'.length - 1)).length, by simp; omega, _, St.le_of ?_ ?_ ?_ ?_, _, _, rfl, ?_, rfl⟩
        · simp
        · simp [St.trunc, look, killP, mapV, mapC]
        · rfl
        · simp [St.trunc, mapC]
        · rw [← he]; conv => rhs; unfold compat
          rw [dif_neg (by simp [h1]), dif_neg (by simp [h2]), dif_pos ⟨h3, h4⟩]
      · rw [← he]; unfold compat
        rw [dif_neg (by simp [h1]), dif_neg (by simp [h2]), dif_neg]
        rintro ⟨a, b⟩
        obtain ⟨l1, a⟩ := hasSuf_one.1 a
        obtain ⟨l2, b⟩ := hasSuf_one.1 b
        exact h3 l1 l2 (by rw [e1 l1]; exact a) (by rw [e2 l2]; exact b)
end Go.Proofs.Ytcgkcbmhjbbjmaa.Abs
