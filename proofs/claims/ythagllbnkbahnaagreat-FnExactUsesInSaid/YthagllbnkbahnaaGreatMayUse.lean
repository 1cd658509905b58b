/- Needed, Fewer, MayUse. No condition. -/
import Derived.Test.YthagllbnkbahnaaGreatFam
import Derived.Test.YthagllbnkbahnaaGreatTy
set_option linter.unusedVariables false
set_option linter.unusedSimpArgs false
namespace Go.Proofs.YthagllbnkbahnaaGreat.Abs
open Go
set_option maxHeartbeats 1000000
set_option maxRecDepth 100000
theorem c_liteTrimSuffix (s t : List UInt8) (K) : Ct Tryz.prog 163 [.str s, .str t] K (.str (cut s t).1) K := by
  refine ct_fn { n0 := 5, ex := [], tk := [7, 15] } Tryz.func163 rfl (by kernel_rfl) (by kernel_rfl) rfl ?_
  simp -implicitDefEqProofs [Tryz.f163]
  refine callK_of (c_liteHasSuffix s t _) ?_
  simp -implicitDefEqProofs
  refine ⟨fun h h1 h2 => ?_, fun h => ?_⟩
  · have hl := hasSuf_le h
    unfold maxLen at *
    rw [wrap64 (by omega) (by omega)]
    refine ⟨by omega, ?_⟩
    rw [cut_fst h, show ((s.length : Int) - t.length).toNat = s.length - t.length by omega]
  · rw [cut_fst_not h]
theorem c_TrimSuffix (s t : List UInt8) (K) : Ct Tryz.prog 158 [.str s, .str t] K (.str (cut s t).1) K := by
  refine ct_fn { n0 := 5, ex := [], tk := [7] } Tryz.func158 rfl (by kernel_rfl) (by kernel_rfl) rfl ?_
  simp -implicitDefEqProofs [Tryz.f158]
  refine callK_of (c_liteTrimSuffix s t _) ?_
  simp -implicitDefEqProofs
theorem c_Fewer (n w : List UInt8) (K) : Ct Tryz.prog 140 [.agg [.str n, .str w]] K (.agg [.str n, .str (cut w [33]).1]) K := by
  refine ct_fn { n0 := 3, ex := [], tk := [] } Tryz.func140 rfl (by kernel_rfl) (by kernel_rfl) rfl ?_
  simp -implicitDefEqProofs [Tryz.f140]
  refine wRun_draw true rfl (by decide +kernel) ?_
  simp -implicitDefEqProofs
  refine callK_of (c_TrimSuffix w _ _) ?_
  simp -implicitDefEqProofs
theorem c_FewerS (n w : List UInt8) (K) : Ct Tryz.prog 153 [.agg [.str n, .str w]] K (.agg [.str n, .str (cut w [33]).1]) K := by
  refine ct_fn { n0 := 3, ex := [], tk := [4, 13] } Tryz.func153 rfl (by kernel_rfl) (by kernel_rfl) rfl ?_
  simp -implicitDefEqProofs [Tryz.f153]
  refine callK_of (c_NeededS n w _) ?_
  simp -implicitDefEqProofs
  refine ⟨fun h h1 => ?_, fun h => by rw [cut_fst_not h]; exact AC.le.refl⟩
  have hl := hasSuf_le h
  simp at hl
  unfold maxLen at *
  rw [wrap64 (by omega) (by omega)]
  refine ⟨by omega, ?_⟩
  rw [cut_fst h, show ((w.length : Int) - 1).toNat = w.length - 1 by omega]; simp
end Go.Proofs.YthagllbnkbahnaaGreat.Abs
