/- FnExactTokensOf: the law's contract. No condition. -/
import Derived.Test.YtkefgpmnimpcdaaGreatDoorTkM
import Derived.Test.YtkefgpmnimpcdaaGreatDoorFsh
import Derived.Test.YtkefgpmnimpcdaaGreatDoorMarks
import Derived.Test.YtkefgpmnimpcdaaGreatDoorFam
set_option linter.unusedVariables false
set_option linter.unusedSimpArgs false
namespace Go.Proofs.YtkefgpmnimpcdaaGreatDoor.Abs
open Go
set_option maxHeartbeats 4000000
set_option maxRecDepth 100000
theorem encTk (m : Md) : ∀ ts : List DToken, tkCs ts = encR m (tTokenS ts) := by
  intro ts; induction ts with
  | nil => rfl
  | cons t ts ih => obtain ⟨k, x, a⟩ := t; simp [tkCs, tTokenS, tToken, encR, encL, encT, ih]
theorem closed_tk : ∀ ts : List DToken, closedL (tkCs ts) = true := by
  intro ts; induction ts with
  | nil => rfl
  | cons t ts ih => simpa [closedL, closed, tkCs] using ih
theorem toEx_tk : ∀ ts : List DToken, toExL (tkCs ts) = tkCs ts := by
  intro ts; induction ts with
  | nil => rfl
  | cons t ts ih => simpa [toExL, toEx, tkCs] using ih
theorem cn_tk : ∀ ts : List DToken, cnR (tTokenS ts) = 3 * ts.length := by
  intro ts; induction ts with
  | nil => rfl
  | cons t ts ih => obtain ⟨k, x, a⟩ := t; simp [tTokenS, tToken, cnR, cnL, cnT, ih]; omega
theorem c_TokensOfX (s : Bs) (hs : s.length ≤ 1048576) (K) : Ct Tryz.prog 11 [.str s] K (.tup [.sl (.ex 104) (toks s).1.length (encR .ex (tTokenS (toks s).1)), .agg [.int .i64 (toks s).2.1, .int .i64 (toks s).2.2]]) K := by
  have h := c_TokensOf s hs []
  generalize toks s = z at *
  obtain ⟨ts, c, a⟩ := z
  have := ct_fresh (by rfl) (by simp [closed, closedL, closed_tk]) h K
  rw [← encTk]
  simpa [toEx, toExL, toEx_tk] using this
theorem c_TokensOfN (s : Bs) (hs : s.length ≤ 1048576) (K) : Ct Tryz.prog 10 [.str s] K (.tup [.sl .no (toks s).1.length (encR .no (tTokenS (toks s).1)), .agg [.int .i64 (toks s).2.1, .int .i64 (toks s).2.2]]) K := by
  rw [← encTk]; exact c_TokensOfS s hs K
theorem c_law (a0 : Bs) : Ct Tryz.prog 3 [.str a0] [] (.bool true) [] := by
  refine ct_fn { n0 := 11, ex := [], tk := [16, 19, 21, 22, 23, 26, 31, 36, 39, 45, 47, 48, 49, 52, 57, 62], es := true, xr := [5, 10, 16, 19], bw := [14] } Tryz.func3 rfl (by kernel_rfl) (by kernel_rfl) rfl ?_
  simp -implicitDefEqProofs [Tryz.f3]
  intro hm hl
  have hI := fun K => c_TokensOfX a0 (by omega) K
  have hS := fun K => c_TokensOfN a0 (by omega) K
  have hb : (toks a0).1.length ≤ 2500 := toks_len a0
  generalize toks a0 = z at *
  obtain ⟨w, c, a⟩ := z
  have hb : w.length ≤ 2500 := hb
  have hcn := cn_tk w
  have hn2 : ¬ ((1 : Int) + (cnR (tTokenS w) : Nat) < 0) := by omega
  have hF : ∀ K, Ct Tryz.prog 13 [.agg [.int .i64 c, .int .i64 a], .agg [.int .i64 c, .int .i64 a]] K (.bool true) K := fun K => by
    have := c_eqFault ⟨c, a⟩ ⟨c, a⟩ K
    rw [eqB_self] at this
    simpa [tFault, encL, encT] using this
  refine callK_of (hS _) ?_
  simp -implicitDefEqProofs [eqB_self, lend_encR, closed_ofR, toEx_ofR, hn2]
  refine callK_of (hI _) ?_
  simp -implicitDefEqProofs [eqB_self, lend_encR, closed_ofR, toEx_ofR, hn2]
  intros
  refine callK_of (c_eqTokenS w w _) ?_
  simp -implicitDefEqProofs [eqB_self, lend_encR, closed_ofR, toEx_ofR, hn2]
  refine callK_still (fun _ => hF _) ?_
  simp -implicitDefEqProofs [eqB_self, lend_encR, closed_ofR, toEx_ofR, hn2]
  intros
  refine endB_of (c_markTokenS w 1 _ (by omega) (by omega)) (by simp) ?_
  simp -implicitDefEqProofs [eqB_self, lend_encR, closed_ofR, toEx_ofR, hn2]
  intros
  refine callK_of (c_heldTokenS w 1 _ (by omega) (by omega)) ?_
  simp -implicitDefEqProofs [eqB_self, lend_encR, closed_ofR, toEx_ofR, hn2]
  refine callK_of (hI _) ?_
  simp -implicitDefEqProofs [eqB_self, lend_encR, closed_ofR, toEx_ofR, hn2]
  intros
  refine callK_of (c_eqTokenS w w _) ?_
  simp -implicitDefEqProofs [eqB_self, lend_encR, closed_ofR, toEx_ofR, hn2]
  refine callK_still (fun _ => hF _) ?_
  simp -implicitDefEqProofs [eqB_self, lend_encR, closed_ofR, toEx_ofR, hn2]
  intros
  refine callK_of (c_heldTokenS w 1 _ (by omega) (by omega)) ?_
  simp -implicitDefEqProofs [eqB_self, lend_encR, closed_ofR, toEx_ofR, hn2]
end Go.Proofs.YtkefgpmnimpcdaaGreatDoor.Abs
