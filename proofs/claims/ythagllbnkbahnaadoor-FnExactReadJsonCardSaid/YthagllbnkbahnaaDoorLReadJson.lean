/- FnExactReadJson: the law's contract. No condition. -/
import Derived.Test.YthagllbnkbahnaaDoorTxCN
import Derived.Test.YthagllbnkbahnaaDoorFsh
import Derived.Test.YthagllbnkbahnaaDoorMarkJ
import Derived.Test.YthagllbnkbahnaaDoorFam
set_option linter.unusedVariables false
set_option linter.unusedSimpArgs false
namespace Go.Proofs.YthagllbnkbahnaaDoor.Abs
open Go
set_option maxHeartbeats 4000000
set_option maxRecDepth 100000
theorem flat_shL {m : Md} {r : List Tr} : (shareL (encL m r)).all flat = true := by
  rw [shareL_eq]
  induction r with
  | nil => rfl
  | cons t ts ih =>
    cases t with
    | sl e rows => cases m <;> simpa [encL, encT] using ih
    | _ => simpa [encL, encT] using ih
theorem len_shL {cs : List AC} : (shareL cs).length = cs.length := by rw [shareL_eq, List.length_map]
theorem c_ReadJsonX (s : Bs) (hs : s.length ≤ 1048576) (K) : Ct Tryd.prog 5 [.str s] K (.tup [.agg (encL .ex (tJson (readI s).1)), .bool (readI s).2]) K := by
  have h := c_ReadJson s hs []
  generalize readI s = z at *
  obtain ⟨⟨k, t, items, names⟩, b⟩ := z
  have := ct_fresh (by rfl) (by simp [closed, closedL, tJson, encL, encT]) h K
  simpa [toEx, toExL, tJson, encL, encT] using this
theorem gives_json (w : DJson) (k : Int) (d : Nat) (zs : List Value) (h : zs.length = 4) : givesOk (alsC d (encL .ex (tJson w)) zs) (encL .ex (mkF (tJson w) k)) zs ∧ giveC (alsC d (encL .ex (tJson w)) zs) (encL .ex (mkF (tJson w) k)) = encL .ex (mkF (tJson w) k) := by
  obtain ⟨x0, x1, x2, x3⟩ := w
  match zs, h with
  | [z0, z1, z2, z3], _ => simp [tJson, mkF, encL, encT, alsC, ownC, givesOk, giveC]
theorem mkF_json (w : DJson) (k : Int) : (mkF (tJson w) k).length = 4 := by obtain ⟨x0, x1, x2, x3⟩ := w; simp [tJson, mkF]
theorem c_law (a0 : Bs) : Ct Tryd.prog 3 [.str a0] [] (.bool true) [] := by
  refine ct_fn { n0 := 11, ex := [], tk := [16, 19, 21, 22, 26, 35, 38, 44, 46, 47, 51, 60], kp := [33], es := true, xr := [5, 10, 16, 19], bw := [7], gb := [(8, 33, 1)] } Tryd.func3 rfl (by kernel_rfl) (by kernel_rfl) rfl ?_
  simp -implicitDefEqProofs [Tryd.f3, gbE, List.lookup, flat_shL, len_shL]
  intro hm hl
  have hI := fun K => c_ReadJsonX a0 (by omega) K
  have hS := fun K => c_ReadJsonS a0 (by omega) K
  have hb := bnd_readI a0
  generalize readI a0 = z at *
  obtain ⟨w, b⟩ := z
  have hb : cnF (tJson w) ≤ 180000 := hb
  have hn2 : ¬ ((1 : Int) + (cnF (tJson w) : Nat) < 0) := by omega
  have hN := encL_len (m := .no) (r := tJson w)
  have hE := encL_len (m := .ex) (r := tJson w)
  rw [tJson_len] at hN hE
  have tkN : (encL .no (tJson w)).take 4 = encL .no (tJson w) := List.take_of_length_le (by omega)
  have tkE : (encL .ex (tJson w)).take 4 = encL .ex (tJson w) := List.take_of_length_le (by omega)
  refine callK_of (hS _) ?_
  simp -implicitDefEqProofs [eqB_self, lend_encL, closed_ofR, toEx_ofR, hn2, hN, hE, tkN, tkE, gbE, List.lookup, flat_shL, len_shL]
  refine callK_of (hI _) ?_
  simp -implicitDefEqProofs [eqB_self, lend_encL, closed_ofR, toEx_ofR, hn2, hN, hE, tkN, tkE, gbE, List.lookup, flat_shL, len_shL]
  intros
  refine callK_of (c_eqJson w w _) ?_
  simp -implicitDefEqProofs [eqB_self, lend_encL, closed_ofR, toEx_ofR, hn2, hN, hE, tkN, tkE, gbE, List.lookup, flat_shL, len_shL]
  intro z zs hz hzl
  have hMN := encL_len (m := .no) (r := mkF (tJson w) 1)
  have hME := encL_len (m := .ex) (r := mkF (tJson w) 1)
  rw [mkF_json] at hMN hME
  have tkMN : (encL .no (mkF (tJson w) 1)).take 4 = encL .no (mkF (tJson w) 1) := List.take_of_length_le (by omega)
  have tkME : (encL .ex (mkF (tJson w) 1)).take 4 = encL .ex (mkF (tJson w) 1) := List.take_of_length_le (by omega)
  refine endB_of (c_markJson w 1 _ (by omega) (by omega)) (by simp) ?_
  simp -implicitDefEqProofs [eqB_self, lend_encL, closed_ofR, toEx_ofR, hn2, hN, hE, tkN, tkE, gbE, List.lookup, flat_shL, len_shL, hMN, hME, tkMN, tkME, (gives_json w 1 33 zs hzl).2]
  refine ⟨zs, hz, (gives_json w 1 33 zs hzl).1, ?_⟩
  intros
  refine callK_of (c_heldJson w 1 _ (by omega) (by omega)) ?_
  simp -implicitDefEqProofs [eqB_self, lend_encL, closed_ofR, toEx_ofR, hn2, hN, hE, tkN, tkE, gbE, List.lookup, flat_shL, len_shL, hMN, hME, tkMN, tkME]
  refine callK_of (hI _) ?_
  simp -implicitDefEqProofs [eqB_self, lend_encL, closed_ofR, toEx_ofR, hn2, hN, hE, tkN, tkE, gbE, List.lookup, flat_shL, len_shL, hMN, hME, tkMN, tkME]
  intros
  refine callK_of (c_eqJson w w _) ?_
  simp -implicitDefEqProofs [eqB_self, lend_encL, closed_ofR, toEx_ofR, hn2, hN, hE, tkN, tkE, gbE, List.lookup, flat_shL, len_shL, hMN, hME, tkMN, tkME]
  intros
  refine callK_of (c_heldJson w 1 _ (by omega) (by omega)) ?_
  simp -implicitDefEqProofs [eqB_self, lend_encL, closed_ofR, toEx_ofR, hn2, hN, hE, tkN, tkE, gbE, List.lookup, flat_shL, len_shL, hMN, hME, tkMN, tkME]
  trace_state
end Go.Proofs.YthagllbnkbahnaaDoor.Abs
