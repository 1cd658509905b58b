/- PRINTED by marka.py: marks of what a law was handed as a struct: the call uses it up. No condition. -/
import Derived.Test.YthagllbnkbahnaaGreatMarks
set_option linter.unusedVariables false
set_option linter.unusedSimpArgs false
namespace Go.Proofs.YthagllbnkbahnaaGreat.Abs
open Go
set_option maxHeartbeats 1000000
set_option maxRecDepth 100000
theorem CtB.ct {P : Program} {f : FuncId} {args : List AC} {K K' : List (List (List AC))} {r back : AC} (h : CtB P f args K r K' back) (hne : args ≠ []) : Ct P f args K r K' := by
  refine ⟨h.1, fun w Pr bl vals La Lk h1 h2 h3 h4 h5 => ?_⟩
  cases h1 with
  | nil => exact absurd rfl hne
  | cons g1 g2 =>
    refine (h.2 w Pr bl _ _ _ Lk (.cons g1 g2) h2 h3 h4 h5).mono ?_
    rintro e w' ⟨v, Pr', Lr, Lb, Lk', bl', rfl, hx, hr, hb, hK, hc, hn, hlt, hs⟩
    refine ⟨v, Pr', Lr, Lk', bl', rfl, hx, hr, hK, fun x => ?_, fun x hx => hn x ?_, hlt, hs⟩
    · have := hc x; simp only [List.count_append] at this ⊢; omega
    · rcases List.mem_append.1 hx with h | h
      · exact List.mem_append_left _ (List.mem_append_left _ h)
      · exact List.mem_append_right _ h
/-- How many marks a struct's slices take. -/
def cnF : List Tr → Nat
  | [] => 0
  | .sl _ rows :: ts => cnR rows + cnF ts
  | _ :: ts => cnF ts
theorem cnF_app {a b : List Tr} : cnF (a ++ b) = cnF a + cnF b := by
  induction a with
  | nil => simp [cnF]
  | cons t ts ih => cases t <;> simp [cnF, ih]; omega
theorem cnF_cn : ∀ r : List Tr, cnF r ≤ cnL r := by
  intro r; induction r with
  | nil => simp [cnF, cnL]
  | cons t ts ih => cases t <;> simp only [cnF, cnL, cnT] <;> omega
theorem cnF_le {r : List Tr} (h : wdL r) : cnF r ≤ r.length + 40 * szL r := Nat.le_trans (cnF_cn r) (cnL_le r h)
@[simp] theorem closed_ofL' (r : List Tr) : closedL (encL .of r) = true := closed_ofL r
@[simp] theorem toEx_ofL' (r : List Tr) : toExL (encL .of r) = encL .ex r := toEx_ofL r
theorem c_markSchema (a : DSchema) (k : Int) (K) (h1 : 0 ≤ k) (h2 : k + cnF (tSchema a) < 1000000000000000000) : Ct Tryz.prog 14 [.agg (encL .ex (tSchema a)), .int .i64 k] K (.int .i64 (k + cnF (tSchema a))) K := by
  obtain ⟨x0, x1, x2⟩ := a
  simp only [tSchema, cnF_app, cnF, List.cons_append, List.nil_append, List.append_nil] at h2 ⊢
  refine ct_fn { n0 := 5, ex := [], tk := [0, 6, 10, 14] } Tryz.func14 rfl (by kernel_rfl) (by kernel_rfl) rfl ?_
  simp -implicitDefEqProofs [Tryz.f14, encL_app, encL, encT]
  refine callK_of (CtB.ct (c_markDefS x0 (k) _ (by omega) (by omega)) (by simp)) ?_
  simp -implicitDefEqProofs
  refine callK_of (CtB.ct (c_markDefS x1 (k + (cnR (tDefS x0) : Nat)) _ (by omega) (by omega)) (by simp)) ?_
  simp -implicitDefEqProofs
  refine callK_of (CtB.ct (c_markRootS x2 (k + (cnR (tDefS x0) : Nat) + (cnR (tDefS x1) : Nat)) _ (by omega) (by omega)) (by simp)) ?_
  simp -implicitDefEqProofs
  try (first | omega | (congr 1; omega) | exact AC.le_of_eq (by congr 1; omega))
end Go.Proofs.YthagllbnkbahnaaGreat.Abs

