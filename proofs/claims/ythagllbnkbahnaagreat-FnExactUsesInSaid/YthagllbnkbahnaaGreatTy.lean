/- Types: suffixes, wrappings, what is compatible. No condition. -/
import Derived.Test.YthagllbnkbahnaaGreatFStr
import Derived.Test.YthagllbnkbahnaaGreatLend
set_option linter.unusedVariables false
set_option linter.unusedSimpArgs false
namespace Go.Proofs.YthagllbnkbahnaaGreat.Abs
open Go
set_option maxHeartbeats 1000000
set_option maxRecDepth 100000
/-- Does s end with t? -/
def hasSuf (s t : List UInt8) : Bool := decide (t.length ≤ s.length) && decide (s.drop (s.length - t.length) = t)
theorem c_NeededS (n w : List UInt8) (K) : Ct Tryz.prog 161 [.agg [.str n, .str w]] K (.bool (hasSuf w [33])) K := by
  refine ct_fn { n0 := 5, ex := [], tk := [] } Tryz.func161 rfl (by kernel_rfl) (by kernel_rfl) rfl ?_
  simp -implicitDefEqProofs [Tryz.f161]
  intro h1 _
  unfold maxLen at *
  rw [wrap64 (by omega) (by omega)]
  refine ⟨fun h => by omega, ?_⟩
  unfold hasSuf
  by_cases hw : 0 < w.length
  · have e : w.drop (w.length - 1) = [w[w.length - 1]] := by
      rw [List.drop_eq_getElem_cons (by omega)]
      simp [show w.length - 1 + 1 = w.length by omega]
    have e2 : ((w.length : Int) - 1).toNat = w.length - 1 := by omega
    have e3 : w[w.length - 1]? = some w[w.length - 1] := List.getElem?_eq_getElem (by omega)
    simp only [List.length_cons, List.length_nil, Nat.zero_add, e, e2, e3, Option.getD_some]
    have : ((w[w.length - 1]).toNat : Int) = 33 ↔ w[w.length - 1] = 33 := by
      rw [← UInt8.toNat_inj]; show _ ↔ _ = 33; omega
    simp [this, show 1 ≤ w.length from hw, hw]
  · have e : w = [] := List.eq_nil_of_length_eq_zero (by omega)
    subst e; simp
theorem c_liteHasSuffix (s t : List UInt8) (K) : Ct Tryz.prog 162 [.str s, .str t] K (.bool (hasSuf s t)) K := by
  refine ct_fn { n0 := 5, ex := [], tk := [] } Tryz.func162 rfl (by kernel_rfl) (by kernel_rfl) rfl ?_
  simp -implicitDefEqProofs [ Tryz.f162]
  intro h1 h2 _ _
  unfold maxLen at *
  rw [wrap64 (by omega) (by omega)]
  refine ⟨fun h => by omega, ?_⟩
  unfold hasSuf
  by_cases h : t.length ≤ s.length
  · rw [show ((s.length : Int) - t.length).toNat = s.length - t.length by omega]
  · simp [h]
def cut (s t : List UInt8) : List UInt8 × Bool := if hasSuf s t then (s.take (s.length - t.length), true) else (s, false)
theorem hasSuf_le {s t : List UInt8} (h : hasSuf s t = true) : t.length ≤ s.length := by
  simp only [hasSuf, Bool.and_eq_true, decide_eq_true_eq] at h; exact h.1
theorem c_liteCutSuffix (s t : List UInt8) (K) : Ct Tryz.prog 157 [.str s, .str t] K (.tup [.str (cut s t).1, .bool (cut s t).2]) K := by
  refine ct_fn { n0 := 6, ex := [], tk := [] } Tryz.func157 rfl (by kernel_rfl) (by kernel_rfl) rfl ?_
  simp -implicitDefEqProofs [Tryz.f157]
  refine callK_of (c_liteHasSuffix s t _) ?_
  simp -implicitDefEqProofs 
  refine ⟨fun h => by simp [cut, h], fun h h1 h2 => ?_⟩
  have hl := hasSuf_le h
  unfold maxLen at *
  rw [wrap64 (by omega) (by omega)]
  refine ⟨by omega, ?_⟩
  simp only [cut, h, if_true]
  rw [show ((s.length : Int) - t.length).toNat = s.length - t.length by omega]
  exact ⟨rfl, trivial⟩
theorem c_CutSuffix (s t : List UInt8) (K) : Ct Tryz.prog 139 [.str s, .str t] K (.tup [.str (cut s t).1, .bool (cut s t).2]) K := by
  refine ct_fn { n0 := 6, ex := [], tk := [] } Tryz.func139 rfl (by kernel_rfl) (by kernel_rfl) rfl ?_
  simp -implicitDefEqProofs [Tryz.f139]
  refine callK_of (c_liteCutSuffix s t _) ?_
  simp -implicitDefEqProofs 
def compat (e : Bool) (w v : List UInt8) : Bool :=
  if hv : hasSuf v [33] = true then (if hw : hasSuf w [33] = true then compat e (w.take (w.length - 1)) (v.take (v.length - 1)) else false)
  else if hw : hasSuf w [33] = true then compat e (w.take (w.length - 1)) v
  else if hb : hasSuf w [93] = true ∧ hasSuf v [93] = true then compat e (w.take (w.length - 1)) (v.take (v.length - 1))
  else decide (w = []) && decide (v = []) && e
termination_by w.length + v.length
decreasing_by
  all_goals first
    | (have := hasSuf_le hw; simp at this; simp; omega)
    | (have := hasSuf_le hb.1; simp at this; simp; omega)
theorem cut_snd (s t : List UInt8) : (cut s t).2 = hasSuf s t := by unfold cut; split <;> simp [*]
theorem cut_fst {s t : List UInt8} (h : hasSuf s t = true) : (cut s t).1 = s.take (s.length - t.length) := by simp [cut, h]
theorem cut_fst_not {s t : List UInt8} (h : hasSuf s t = false) : (cut s t).1 = s := by simp [cut, h]
theorem hasSuf_one {s : List UInt8} {b : UInt8} : hasSuf s [b] = true ↔ 0 < s.length ∧ ((s[s.length - 1]?.getD 0).toNat : Int) = b.toNat := by
  unfold hasSuf
  by_cases hw : 0 < s.length
  · have e : s.drop (s.length - 1) = [s[s.length - 1]] := by
      rw [List.drop_eq_getElem_cons (by omega)]
      simp [show s.length - 1 + 1 = s.length by omega]
    have e3 : s[s.length - 1]? = some s[s.length - 1] := List.getElem?_eq_getElem (by omega)
    simp only [List.length_cons, List.length_nil, Nat.zero_add, e, e3, Option.getD_some]
    have : ((s[s.length - 1]).toNat : Int) = b.toNat ↔ s[s.length - 1] = b := by
      rw [← UInt8.toNat_inj]; omega
    simp [this, show 1 ≤ s.length from hw, hw]
  · have e : s = [] := List.eq_nil_of_length_eq_zero (by omega)
    subst e; simp
end Go.Proofs.YthagllbnkbahnaaGreat.Abs
