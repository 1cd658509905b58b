/- Needed, Fewer, MayUse. No condition. -/
import Derived.Test.YtcgkcbmhjbbjmaaFam
import Derived.Test.YtcgkcbmhjbbjmaaTy
set_option linter.unusedVariables false
set_option linter.unusedSimpArgs false
namespace Go.Proofs.Ytcgkcbmhjbbjmaa.Abs
open Go
set_option maxHeartbeats 1000000
set_option maxRecDepth 100000
theorem c_stringsHasSuffix (s t : List UInt8) (K) : Ct Try.prog 136 [.str s, .str t] K (.bool (hasSuf s t)) K := by
  refine ct_fn { n0 := 5, ex := [], tk := [7] } Try.func136 rfl (by kernel_rfl) (by kernel_rfl) rfl ?_
  simp -implicitDefEqProofs [Try.f136]
  refine callK_of (c_liteHasSuffix s t _) ?_
  simp -implicitDefEqProofs
theorem c_liteTrimSuffix (s t : List UInt8) (K) : Ct Try.prog 156 [.str s, .str t] K (.str (cut s t).1) K := by
  refine ct_fn { n0 := 5, ex := [], tk := [7, 15] } Try.func156 rfl (by kernel_rfl) (by kernel_rfl) rfl ?_
  simp -implicitDefEqProofs [Try.f156]
  refine callK_of (c_liteHasSuffix s t _) ?_
  simp -implicitDefEqProofs
  refine ⟨fun h h1 h2 => ?_, fun h => ?_⟩
  · have hl := hasSuf_le h
    unfold maxLen at *
    rw [wrap64 (by omega) (by omega)]
    refine ⟨by omega, ?_⟩
    rw [cut_fst h, show ((s.length : Int) - t.length).toNat = s.length - t.length by omega]
  · rw [cut_fst_not h]
theorem c_TrimSuffix (s t : List UInt8) (K) : Ct Try.prog 138 [.str s, .str t] K (.str (cut s t).1) K := by
  refine ct_fn { n0 := 5, ex := [], tk := [7] } Try.func138 rfl (by kernel_rfl) (by kernel_rfl) rfl ?_
  simp -implicitDefEqProofs [Try.f138]
  refine callK_of (c_liteTrimSuffix s t _) ?_
  simp -implicitDefEqProofs
theorem c_Needed (n w : List UInt8) (K) : Ct Try.prog 100 [.agg [.str n, .str w]] K (.bool (hasSuf w [33])) K := by
  refine ct_fn { n0 := 3, ex := [], tk := [5] } Try.func100 rfl (by kernel_rfl) (by kernel_rfl) rfl ?_
  simp -implicitDefEqProofs [Try.f100]
  refine callK_of (c_stringsHasSuffix w _ _) ?_
  simp -implicitDefEqProofs
theorem c_Fewer (n w : List UInt8) (K) : Ct Try.prog 103 [.agg [.str n, .str w]] K (.agg [.str n, .str (cut w [33]).1]) K := by
  refine ct_fn { n0 := 3, ex := [], tk := [] } Try.func103 rfl (by kernel_rfl) (by kernel_rfl) rfl ?_
  simp -implicitDefEqProofs [Try.f103]
  refine wRun_draw true rfl (by decide +kernel) ?_
  simp -implicitDefEqProofs
  refine callK_of (c_TrimSuffix w _ _) ?_
  simp -implicitDefEqProofs
theorem c_FewerS (n w : List UInt8) (K) : Ct Try.prog 98 [.agg [.str n, .str w]] K (.agg [.str n, .str (cut w [33]).1]) K := by
  refine ct_fn { n0 := 3, ex := [], tk := [4, 13] } Try.func98 rfl (by kernel_rfl) (by kernel_rfl) rfl ?_
  simp -implicitDefEqProofs [Try.f98]
  refine callK_of (c_NeededS n w _) ?_
  simp -implicitDefEqProofs
  refine ⟨fun h h1 => ?_, fun h => by rw [cut_fst_not h]; exact AC.le.refl⟩
  have hl := hasSuf_le h
  simp at hl
  unfold maxLen at *
  rw [wrap64 (by omega) (by omega)]
  refine ⟨by omega, ?_⟩
  rw [cut_fst h, show ((w.length : Int) - 1).toNat = w.length - 1 by omega]; simp
theorem c_isNull (v : DValue) (K) : Ct Try.prog 101 [.agg (encL .no (tValue v))] K (.bool (decide (v.kind = 5) && decide (v.text = [110, 117, 108, 108]))) K := by
  obtain ⟨x0, x1, x2, x3⟩ := v
  refine ct_fn { n0 := 3, ex := [], tk := [] } Try.func101 rfl (by kernel_rfl) (by kernel_rfl) rfl ?_
  simp -implicitDefEqProofs [Try.f101, tValue, encL, encT]
theorem c_CompatibleI (n w m v : List UInt8) (K) : Ct Try.prog 102 [.agg [.str n, .str w], .agg [.str m, .str v]] K (.bool (compat (decide (n = m)) w v)) K := c_Compatible n m _ w v K (Nat.lt_succ_self _)
def mayUse (v : DVarDef) (u : DUse) : Bool :=
  if u.free then true else if hasSuf u.ty.wraps [33] && !(hasSuf v.ty.wraps [33]) then
    ((v.has && !(decide (v.dflt.kind = 5) && decide (v.dflt.text = [110, 117, 108, 108]))) || u.has) && compat (decide (v.ty.name = u.ty.name)) v.ty.wraps (cut u.ty.wraps [33]).1
  else compat (decide (v.ty.name = u.ty.name)) v.ty.wraps u.ty.wraps
theorem c_MayUse (v : DVarDef) (u : DUse) (K) : Ct Try.prog 47 [.agg (encL .no (tVarDef v)), .agg (encL .no (tUse u))] K (.bool (mayUse v u)) K := by
  obtain ⟨v0, ⟨v1, v2⟩, v3, v4, v5⟩ := v
  obtain ⟨u0, ⟨u1, u2⟩, u3, u4⟩ := u
  have hn := c_isNull v4
  obtain ⟨y0, y1, y2, y3⟩ := v4
  simp only [tValue, encL_app, encL, encT, List.cons_append, List.nil_append, Md.ow_no, tStrS_len, tValueS_len] at hn
  generalize hr : mayUse _ _ = r
  refine ct_fn { n0 := 5, ex := [], tk := [] } Try.func47 rfl (by kernel_rfl) (by kernel_rfl) rfl ?_
  simp -implicitDefEqProofs [Try.f47, tVarDef, tUse, tValue, tType, encL_app, encL, encT]
  refine ⟨fun h => by rw [← hr]; simp [mayUse, h], fun h => ?_⟩
  refine callK_of (c_Needed u1 u2 _) ?_
  simp -implicitDefEqProofs
  refine callK_still (fun _ => c_Needed v1 v2 _) ?_
  simp -implicitDefEqProofs
  refine ⟨fun h1 h2 => ?_, fun h1 => ?_⟩
  · refine wRun_draw true rfl (by decide +kernel) ?_
    simp -implicitDefEqProofs
    refine callK_still (fun _ => hn _) ?_
    simp -implicitDefEqProofs
    refine callK_still (fun _ => c_Fewer u1 u2 _) ?_
    simp -implicitDefEqProofs
    refine callK_still (fun _ => c_CompatibleI v1 v2 u1 (cut u2 [33]).1 _) ?_
    simp -implicitDefEqProofs
    rw [← hr]; simp [mayUse, h, h1, h2]
  · refine callK_of (c_CompatibleI v1 v2 u1 u2 _) ?_
    simp -implicitDefEqProofs
    rw [← hr]; simp only [mayUse, h]
    cases e : hasSuf u2 [33]
    · simp
    · simp [h1 e]
theorem c_MayUseS (v : DVarDef) (u : DUse) (K) : Ct Try.prog 44 [.agg (encL .no (tVarDef v)), .agg (encL .no (tUse u))] K (.bool (mayUse v u)) K := by
  obtain ⟨v0, ⟨v1, v2⟩, v3, ⟨y0, y1, y2, y3⟩, v5⟩ := v
  obtain ⟨u0, ⟨u1, u2⟩, u3, u4⟩ := u
  generalize hr : mayUse _ _ = r
  refine ct_fn { n0 := 6, ex := [], tk := [] } Try.func44 rfl (by kernel_rfl) (by kernel_rfl) rfl ?_
  simp -implicitDefEqProofs [Try.f44, tVarDef, tUse, tValue, tType, encL_app, encL, encT]
  refine ⟨fun h => by rw [← hr]; simp [mayUse, h], fun h => ?_⟩
  refine callK_of (c_NeededS u1 u2 _) ?_
  simp -implicitDefEqProofs
  refine callK_still (fun _ => c_NeededS v1 v2 _) ?_
  simp -implicitDefEqProofs
  refine ⟨fun h1 h2 => ?_, fun h1 => ?_⟩
  · refine wRun_draw true rfl (by decide +kernel) ?_
    simp -implicitDefEqProofs
    refine callK_still (fun _ => c_FewerS u1 u2 _) ?_
    simp -implicitDefEqProofs
    refine callK_still (fun _ => c_CompatibleS v1 v2 u1 (cut u2 [33]).1 _) ?_
    simp -implicitDefEqProofs
    rw [← hr]; simp [mayUse, h, h1, h2]
  · refine callK_of (c_CompatibleS v1 v2 u1 u2 _) ?_
    simp -implicitDefEqProofs
    rw [← hr]; simp only [mayUse, h]
    cases e : hasSuf u2 [33]
    · simp
    · simp [h1 e]
end Go.Proofs.Ytcgkcbmhjbbjmaa.Abs
