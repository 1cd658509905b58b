/- PRINTED by docs.py: VarDefs copied, FragsIn, OpsIn. No condition. -/
import Derived.Test.YthpbggfajpakkaaGreatCopies2
set_option linter.unusedVariables false
set_option linter.unusedSimpArgs false
namespace Go.Proofs.YthpbggfajpakkaaGreat.Abs
open Go
set_option maxHeartbeats 2000000
set_option maxRecDepth 100000
theorem nextVarDef {m : Md} {xs : List DVarDef} {i : Nat} {x : DVarDef} (h : xs[i]? = some x) : encR m (tVarDefS (xs.take (i + 1))) = encR m (tVarDefS (xs.take i)) ++ encL m (tVarDef x) := by
  rw [List.take_add_one, h, tVarDefS_app, encR_app]; simp [tVarDefS, encR]
theorem c_cloneVars (xs : List DVarDef) (K) (hs : xs.length + szR (tVarDefS xs) ≤ 1048576) :
    Ct Tryz.prog 105 [.sl .no xs.length (encR .no (tVarDefS xs))] K (.sl (.of 222) xs.length (encR .of (tVarDefS xs))) K := by
  refine ct_fn { n0 := 6, ex := [6, 7, 8], tk := [14, 18, 20, 21, 22, 23, 25] } Tryz.func105 rfl (by kernel_rfl) (by kernel_rfl) rfl ?_
  simp -implicitDefEqProofs [Tryz.f105]
  intro h1
  obtain ⟨I, hI⟩ : ∃ I : Nat → St → Prop, ∀ m s, I m s ↔ ∃ i, i ≤ xs.length ∧ m = xs.length - i ∧
    s = { env := [(0, .sl .no xs.length (encR .no (tVarDefS xs))), (2, .sl .nil 0 []), (3, .sl (.of 222) i (encR .of (tVarDefS (xs.take i)))), (6, .sl .no xs.length (encR .no (tVarDefS xs))), (7, .int .i64 xs.length), (8, .int .i64 i)], loc := [], K := [] :: K } := ⟨_, fun _ _ => Iff.rfl⟩
  refine wC_loopI I xs.length ((hI _ _).2 ⟨0, by omega, rfl, rfl⟩) (St.le_of (by simp) (by simp [tVarDefS, encR]) rfl rfl) ?_
  intro m s hm
  obtain ⟨i, hi, rfl, rfl⟩ := (hI _ _).1 hm
  rcases Nat.lt_or_ge i xs.length with hlt | hge
  · obtain ⟨x, hx⟩ : ∃ x, xs[i]? = some x := ⟨_, List.getElem?_eq_getElem hlt⟩
    have ea := atVarDef (m := .no) hx
    have es := szR_get (tVarDefS_get hx)
    have el := szR_take_le (rs := tVarDefS xs) (i + 1)
    have hz : szL (tVarDef x) = x.name.length + x.ty.name.length + x.ty.wraps.length + szL (tValue x.dflt) + (x.dirs.length + szR (tDirS x.dirs)) := by obtain ⟨a0, ⟨t0, t1⟩, a2, ⟨v0, v1, v2, v3⟩, a4⟩ := x; simp [tVarDef, tType, tValue, szL, szT]; omega
    have hc1 := fun K => c_cloneValue x.dflt K (by omega)
    have hc2 := fun K => c_cloneDirs x.dirs K (by omega)
    have hn := nextVarDef (m := .of) hx
    have hl : (encR .of (tVarDefS (xs.take i))).length = i * 9 := by rw [encVarDefS_len, List.length_take, Nat.min_eq_left hi]
    have wi : IntKind.i64.wrap ((i : Int) + 1) = (i + 1 : Nat) := by rw [wrap64 (by omega) (by omega)]; rfl
    obtain ⟨a0, ⟨t0, t1⟩, a2, ⟨v0, v1, v2, v3⟩, a4⟩ := x
    simp only [tVarDef, tType, tValue, encL_app, encL, encT, List.cons_append, List.nil_append, Md.ow_no, Md.ow_of, tStrS_len, tValueS_len, tDirS_len] at hc1 hc2 ea hn
    simp -implicitDefEqProofs [hlt, ea, encVarDefS_len, wi]
    refine callK_of (hc1 _) ?_
    simp -implicitDefEqProofs [hlt, ea, encVarDefS_len, wi]
    refine callK_of (hc2 _) ?_
    simp -implicitDefEqProofs [hlt, ea, encVarDefS_len, wi]
    rw [← hn]
    refine ⟨by unfold maxLen; omega, by omega, ?_⟩
    exact ⟨xs.length - (i + 1), by omega, _, St.le_of (by simp) (by simp [St.trunc, look, mapV, mapC, killP]) rfl (by simp [St.trunc, mapC]), (hI _ _).2 ⟨i + 1, by omega, rfl, rfl⟩⟩
  · have e : i = xs.length := by omega
    subst e
    rw [List.take_of_length_le (Nat.le_refl _)]
    simp -implicitDefEqProofs
theorem c_l12Vars (xs : List DVarDef) (K) (hs : xs.length + szR (tVarDefS xs) ≤ 1048576) :
    Ct Tryz.prog 160 [.sl .no xs.length (encR .no (tVarDefS xs))] K (.sl (.of 222) xs.length (encR .of (tVarDefS xs))) K := by
  refine ct_fn { n0 := 6, ex := [], tk := [6, 19, 23, 25, 26, 27, 28, 29] } Tryz.func160 rfl (by kernel_rfl) (by kernel_rfl) rfl ?_
  simp -implicitDefEqProofs [Tryz.f160]
  obtain ⟨I, hI⟩ : ∃ I : Nat → St → Prop, ∀ m s, I m s ↔ ∃ i, i ≤ xs.length ∧ m = xs.length - i ∧
    s = { env := [(0, .sl .no xs.length (encR .no (tVarDefS xs))), (2, .sl .nil 0 []), (3, .sl (.of 222) i (encR .of (tVarDefS (xs.take i)))), (4, .int .i64 i)], loc := [], K := [] :: K } := ⟨_, fun _ _ => Iff.rfl⟩
  refine wC_loopI I xs.length ((hI _ _).2 ⟨0, by omega, rfl, rfl⟩) (St.le_of (by simp) (by simp [tVarDefS, encR]) rfl rfl) ?_
  intro m s hm
  obtain ⟨i, hi, rfl, rfl⟩ := (hI _ _).1 hm
  rcases Nat.lt_or_ge i xs.length with hlt | hge
  · obtain ⟨x, hx⟩ : ∃ x, xs[i]? = some x := ⟨_, List.getElem?_eq_getElem hlt⟩
    have ea := atVarDef (m := .no) hx
    have es := szR_get (tVarDefS_get hx)
    have el := szR_take_le (rs := tVarDefS xs) (i + 1)
    have hz : szL (tVarDef x) = x.name.length + x.ty.name.length + x.ty.wraps.length + szL (tValue x.dflt) + (x.dirs.length + szR (tDirS x.dirs)) := by obtain ⟨a0, ⟨t0, t1⟩, a2, ⟨v0, v1, v2, v3⟩, a4⟩ := x; simp [tVarDef, tType, tValue, szL, szT]; omega
    have hc1 := fun K => c_l07Copy x.dflt K (by omega)
    have hc2 := fun K => c_l10Dirs x.dirs K (by omega)
    have hn := nextVarDef (m := .of) hx
    have hl : (encR .of (tVarDefS (xs.take i))).length = i * 9 := by rw [encVarDefS_len, List.length_take, Nat.min_eq_left hi]
    have wi : IntKind.i64.wrap ((i : Int) + 1) = (i + 1 : Nat) := by rw [wrap64 (by omega) (by omega)]; rfl
    obtain ⟨a0, ⟨t0, t1⟩, a2, ⟨v0, v1, v2, v3⟩, a4⟩ := x
    simp only [tVarDef, tType, tValue, encL_app, encL, encT, List.cons_append, List.nil_append, Md.ow_no, Md.ow_of, tStrS_len, tValueS_len, tDirS_len] at hc1 hc2 ea hn
    simp -implicitDefEqProofs [hlt, ea, encVarDefS_len, wi]
    intro hm1
    refine callK_of (hc1 _) ?_
    simp -implicitDefEqProofs [hlt, ea, encVarDefS_len, wi]
    refine callK_of (hc2 _) ?_
    simp -implicitDefEqProofs [hlt, ea, encVarDefS_len, wi]
    rw [← hn]
    refine ⟨by unfold maxLen; omega, by omega, ?_⟩
    exact ⟨xs.length - (i + 1), by omega, _, St.le_of (by simp) (by simp [St.trunc, look, mapV, mapC, killP]) rfl (by simp [St.trunc, mapC]), (hI _ _).2 ⟨i + 1, by omega, rfl, rfl⟩⟩
  · have e : i = xs.length := by omega
    subst e
    rw [List.take_of_length_le (Nat.le_refl _)]
    simp -implicitDefEqProofs
theorem szFrag (x : DFrag) : szL (tFrag x) = x.name.length + x.on_.length + (x.dirs.length + szR (tDirS x.dirs)) + (x.sels.length + szR (tSelS x.sels)) := by
  obtain ⟨a0, a1, a2, a3⟩ := x; simp [tFrag, szL, szT]; omega
theorem szOp (x : DOp) : szL (tOp x) = x.name.length + (x.vars.length + szR (tVarDefS x.vars)) + (x.dirs.length + szR (tDirS x.dirs)) + (x.sels.length + szR (tSelS x.sels)) := by
  obtain ⟨a0, a1, a2, a3, a4⟩ := x; simp [tOp, szL, szT]; omega
theorem szItem (x : DItem) : szL (tOp x.op_) ≤ szL (tItem x) ∧ szL (tFrag x.frag) ≤ szL (tItem x) := by
  obtain ⟨k, o, f, d⟩ := x
  have happ : ∀ a b : List Tr, szL (a ++ b) = szL a + szL b := by intro a b; induction a with
    | nil => simp [szL]
    | cons t ts ih => simp [szL, ih]; omega
  simp only [tItem, happ]; omega
theorem c_l12Frag (x : DFrag) (K) (hs : szL (tFrag x) ≤ 1048576) : Ct Tryz.prog 98 [.agg (encL .no (tFrag x))] K (.agg (encL .of (tFrag x))) K := by
  have hz := szFrag x
  have hc1 := fun K => c_l10Dirs x.dirs K (by omega)
  have hc2 := fun K => c_l11Copy x.sels K (by omega)
  obtain ⟨a0, a1, a2, a3⟩ := x
  dsimp only at hc1 hc2
  refine ct_fn { n0 := 3, ex := [], tk := [5, 9, 11] } Tryz.func98 rfl (by kernel_rfl) (by kernel_rfl) rfl ?_
  simp -implicitDefEqProofs [Tryz.f98, tFrag, encL, encT]
  refine callK_of (hc1 _) ?_
  simp -implicitDefEqProofs
  refine callK_of (hc2 _) ?_
  simp -implicitDefEqProofs
theorem c_l12Op (x : DOp) (K) (hs : szL (tOp x) ≤ 1048576) : Ct Tryz.prog 104 [.agg (encL .no (tOp x))] K (.agg (encL .of (tOp x))) K := by
  have hz := szOp x
  have hc0 := fun K => c_l12Vars x.vars K (by omega)
  have hc1 := fun K => c_l10Dirs x.dirs K (by omega)
  have hc2 := fun K => c_l11Copy x.sels K (by omega)
  obtain ⟨a0, a1, a2, a3, a4⟩ := x
  dsimp only at hc0 hc1 hc2
  refine ct_fn { n0 := 3, ex := [], tk := [5, 9, 13, 15] } Tryz.func104 rfl (by kernel_rfl) (by kernel_rfl) rfl ?_
  simp -implicitDefEqProofs [Tryz.f104, tOp, encL, encT]
  refine callK_of (hc0 _) ?_
  simp -implicitDefEqProofs
  refine callK_of (hc1 _) ?_
  simp -implicitDefEqProofs
  refine callK_of (hc2 _) ?_
  simp -implicitDefEqProofs
def fragsOf (xs : List DItem) : List DFrag := (xs.filter fun x => decide (x.kind = 2)).map (·.frag)
theorem fragsOf_take {xs : List DItem} {i : Nat} {x : DItem} (h : xs[i]? = some x) : fragsOf (xs.take (i + 1)) = fragsOf (xs.take i) ++ if x.kind = 2 then [x.frag] else [] := by
  unfold fragsOf; rw [List.take_add_one, h, List.filter_append, List.map_append]
  by_cases hx : x.kind = 2 <;> simp [hx]
def fragsIn (d : DDoc) : List DFrag := fragsOf d.items
theorem fragsOf_len {xs : List DItem} : (fragsOf xs).length ≤ xs.length := by
  unfold fragsOf; rw [List.length_map]; exact List.length_filter_le _ _
theorem snocFrag {m : Md} {xs : List DFrag} {x : DFrag} : encR m (tFragS (xs ++ [x])) = encR m (tFragS xs) ++ encL m (tFrag x) := by
  rw [tFragS_app, encR_app]; simp [tFragS, encR]
theorem c_FragsIn (d : DDoc) (K) (hs : szL (tDoc d) ≤ 1048576) : Ct Tryz.prog 39 [.agg (encL .no (tDoc d))] K (.sl (.of 152) (fragsIn d).length (encR .of (tFragS (fragsIn d)))) K := by
  generalize hr : fragsIn d = r
  unfold fragsIn at hr
  obtain ⟨xs⟩ := d
  simp only [tDoc, szL, szT, tItemS_len] at hs hr
  refine ct_fn { n0 := 7, ex := [9, 10, 11], tk := [7, 22, 26, 28, 29, 30, 31, 33] } Tryz.func39 rfl (by kernel_rfl) (by kernel_rfl) rfl ?_
  simp -implicitDefEqProofs [Tryz.f39, tDoc, encL, encT]
  intro h1
  obtain ⟨I, hI⟩ : ∃ I : Nat → St → Prop, ∀ m s, I m s ↔ ∃ (i : Nat) (out : List DFrag), i ≤ xs.length ∧ m = xs.length - i ∧ out = fragsOf (xs.take i) ∧
    s = { env := [(0, .agg [.sl .no xs.length (encR .no (tItemS xs))]), (1, .ptr 0 0 0), (2, .sl .nil 0 []), (3, .sl (.of 152) out.length (encR .of (tFragS out))), (9, .sl .no xs.length (encR .no (tItemS xs))), (10, .int .i64 xs.length), (11, .int .i64 i)], loc := [], K := [[.sl .no xs.length (encR .no (tItemS xs))]] :: K } := ⟨_, fun _ _ => Iff.rfl⟩
  refine wC_loopI I xs.length ((hI _ _).2 ⟨0, [], by omega, rfl, rfl, rfl⟩) (St.le_of (by simp) (by simp [tFragS, encR]) rfl rfl) ?_
  intro m s hm
  obtain ⟨i, out, hi, rfl, ho, rfl⟩ := (hI _ _).1 hm
  have hlo := fragsOf_len (xs := xs.take i)
  rw [← ho, List.length_take, Nat.min_eq_left hi] at hlo
  have hlc : (encR .of (tFragS out)).length = out.length * 4 := by rw [encFragS_len]
  rcases Nat.lt_or_ge i xs.length with hlt | hge
  · obtain ⟨x, hx⟩ : ∃ x, xs[i]? = some x := ⟨_, List.getElem?_eq_getElem hlt⟩
    have ea := atItem (m := .no) hx
    have es := szR_get (tItemS_get hx)
    have el := szR_take_le (rs := tItemS xs) (i + 1)
    have hz := szItem x
    have hzf := szFrag x.frag
    have hc1 := fun K => c_cloneDirs x.frag.dirs K (by omega)
    have hc2 := fun K => c_cloneSels x.frag.sels K (by omega)
    have hnx := fragsOf_take hx
    rw [← ho] at hnx
    have hn := snocFrag (m := .of) (xs := out) (x := x.frag)
    have wi : IntKind.i64.wrap ((i : Int) + 1) = (i + 1 : Nat) := by rw [wrap64 (by omega) (by omega)]; rfl
    obtain ⟨k, ⟨o0, o1, o2, o3, o4⟩, ⟨f0, f1, f2, f3⟩, ⟨d0, d1, d2, d3, d4, d5, d6, d7, d8, d9, d10⟩⟩ := x
    dsimp only at hnx
    simp only [tItem, tOp, tFrag, tDef, encL_app, encL, encT, List.cons_append, List.nil_append, Md.ow_no, Md.ow_of, tStrS_len, tVarDefS_len, tDirS_len, tSelS_len, tFieldDefS_len, tInDefS_len, tEnumDefS_len, tRootS_len] at hc1 hc2 ea hn
    simp -implicitDefEqProofs [hlt, ea, encItemS_len, wi]
    refine ⟨fun h2 => ?_, fun h2 => ?_⟩
    · rw [if_pos h2] at hnx
      refine callK_of (hc1 _) ?_
      simp -implicitDefEqProofs [hlt, ea, encItemS_len, wi]
      refine callK_of (hc2 _) ?_
      simp -implicitDefEqProofs [hlt, ea, encItemS_len, wi]
      rw [← hn]
      refine ⟨by unfold maxLen; omega, by omega, ?_⟩
      exact ⟨xs.length - (i + 1), by omega, _, St.le_of (by simp) (by simp [St.trunc, look, mapV, mapC, killP]) rfl (by simp [St.trunc, mapC]), (hI _ _).2 ⟨i + 1, out ++ [⟨f0, f1, f2, f3⟩], by omega, rfl, hnx.symm, rfl⟩⟩
    · rw [if_neg h2, List.append_nil] at hnx
      exact ⟨xs.length - (i + 1), by omega, _, St.le_of (by simp) (by simp [St.trunc, look, mapV, mapC, killP]) rfl (by simp [St.trunc, mapC]), (hI _ _).2 ⟨i + 1, out, by omega, rfl, hnx.symm, rfl⟩⟩
  · have e : i = xs.length := by omega
    subst e
    rw [List.take_of_length_le (Nat.le_refl _), hr] at ho
    subst ho
    simp -implicitDefEqProofs
theorem c_FragsInS (d : DDoc) (K) (hs : szL (tDoc d) ≤ 1048576) : Ct Tryz.prog 37 [.agg (encL .no (tDoc d))] K (.sl (.of 152) (fragsIn d).length (encR .of (tFragS (fragsIn d)))) K := by
  generalize hr : fragsIn d = r
  unfold fragsIn at hr
  obtain ⟨xs⟩ := d
  simp only [tDoc, szL, szT, tItemS_len] at hs hr
  refine ct_fn { n0 := 5, ex := [], tk := [5, 20, 27, 28, 29, 30] } Tryz.func37 rfl (by kernel_rfl) (by kernel_rfl) rfl ?_
  simp -implicitDefEqProofs [Tryz.f37, tDoc, encL, encT]
  obtain ⟨I, hI⟩ : ∃ I : Nat → St → Prop, ∀ m s, I m s ↔ ∃ (i : Nat) (out : List DFrag), i ≤ xs.length ∧ m = xs.length - i ∧ out = fragsOf (xs.take i) ∧
    s = { env := [(0, .agg [.sl .no xs.length (encR .no (tItemS xs))]), (1, .ptr 0 0 0), (2, .sl .nil 0 []), (3, .sl (.of 152) out.length (encR .of (tFragS out))), (4, .int .i64 i)], loc := [], K := [[.sl .no xs.length (encR .no (tItemS xs))]] :: K } := ⟨_, fun _ _ => Iff.rfl⟩
  refine wC_loopI I xs.length ((hI _ _).2 ⟨0, [], by omega, rfl, rfl, rfl⟩) (St.le_of (by simp) (by simp [tFragS, encR]) rfl rfl) ?_
  intro m s hm
  obtain ⟨i, out, hi, rfl, ho, rfl⟩ := (hI _ _).1 hm
  have hlo := fragsOf_len (xs := xs.take i)
  rw [← ho, List.length_take, Nat.min_eq_left hi] at hlo
  have hlc : (encR .of (tFragS out)).length = out.length * 4 := by rw [encFragS_len]
  rcases Nat.lt_or_ge i xs.length with hlt | hge
  · obtain ⟨x, hx⟩ : ∃ x, xs[i]? = some x := ⟨_, List.getElem?_eq_getElem hlt⟩
    have ea := atItem (m := .no) hx
    have es := szR_get (tItemS_get hx)
    have el := szR_take_le (rs := tItemS xs) (i + 1)
    have hz := szItem x
    have hzf := szFrag x.frag
    have hc1 := fun K => c_l12Frag x.frag K (by omega)
    have hnx := fragsOf_take hx
    rw [← ho] at hnx
    have hn := snocFrag (m := .of) (xs := out) (x := x.frag)
    have wi : IntKind.i64.wrap ((i : Int) + 1) = (i + 1 : Nat) := by rw [wrap64 (by omega) (by omega)]; rfl
    obtain ⟨k, ⟨o0, o1, o2, o3, o4⟩, ⟨f0, f1, f2, f3⟩, ⟨d0, d1, d2, d3, d4, d5, d6, d7, d8, d9, d10⟩⟩ := x
    dsimp only at hnx
    simp only [tItem, tOp, tFrag, tDef, encL_app, encL, encT, List.cons_append, List.nil_append, Md.ow_no, Md.ow_of, tStrS_len, tVarDefS_len, tDirS_len, tSelS_len, tFieldDefS_len, tInDefS_len, tEnumDefS_len, tRootS_len] at hc1 ea hn
    simp -implicitDefEqProofs [hlt, ea, encItemS_len, wi]
    intro hm1
    refine ⟨fun h2 => ?_, fun h2 => ?_⟩
    · rw [if_pos h2] at hnx
      refine callK_of (hc1 _) ?_
      simp -implicitDefEqProofs [hlt, ea, encItemS_len, wi]
      rw [← hn]
      refine ⟨by unfold maxLen; omega, by omega, ?_⟩
      exact ⟨xs.length - (i + 1), by omega, _, St.le_of (by simp) (by simp [St.trunc, look, mapV, mapC, killP]) rfl (by simp [St.trunc, mapC]), (hI _ _).2 ⟨i + 1, out ++ [⟨f0, f1, f2, f3⟩], by omega, rfl, hnx.symm, rfl⟩⟩
    · rw [if_neg h2, List.append_nil] at hnx
      exact ⟨xs.length - (i + 1), by omega, _, St.le_of (by simp) (by simp [St.trunc, look, mapV, mapC, killP]) rfl (by simp [St.trunc, mapC]), (hI _ _).2 ⟨i + 1, out, by omega, rfl, hnx.symm, rfl⟩⟩
  · have e : i = xs.length := by omega
    subst e
    rw [List.take_of_length_le (Nat.le_refl _), hr] at ho
    subst ho
    simp -implicitDefEqProofs
def opsOf (xs : List DItem) : List DOp := (xs.filter fun x => decide (x.kind = 1)).map (·.op_)
theorem opsOf_take {xs : List DItem} {i : Nat} {x : DItem} (h : xs[i]? = some x) : opsOf (xs.take (i + 1)) = opsOf (xs.take i) ++ if x.kind = 1 then [x.op_] else [] := by
  unfold opsOf; rw [List.take_add_one, h, List.filter_append, List.map_append]
  by_cases hx : x.kind = 1 <;> simp [hx]
def opsIn (d : DDoc) : List DOp := opsOf d.items
theorem opsOf_len {xs : List DItem} : (opsOf xs).length ≤ xs.length := by
  unfold opsOf; rw [List.length_map]; exact List.length_filter_le _ _
theorem snocOp {m : Md} {xs : List DOp} {x : DOp} : encR m (tOpS (xs ++ [x])) = encR m (tOpS xs) ++ encL m (tOp x) := by
  rw [tOpS_app, encR_app]; simp [tOpS, encR]
theorem c_OpsIn (d : DDoc) (K) (hs : szL (tDoc d) ≤ 1048576) : Ct Tryz.prog 46 [.agg (encL .no (tDoc d))] K (.sl (.of 150) (opsIn d).length (encR .of (tOpS (opsIn d)))) K := by
  generalize hr : opsIn d = r
  unfold opsIn at hr
  obtain ⟨xs⟩ := d
  simp only [tDoc, szL, szT, tItemS_len] at hs hr
  refine ct_fn { n0 := 7, ex := [9, 10, 11], tk := [7, 22, 26, 30, 32, 33, 34, 35, 37] } Tryz.func46 rfl (by kernel_rfl) (by kernel_rfl) rfl ?_
  simp -implicitDefEqProofs [Tryz.f46, tDoc, encL, encT]
  intro h1
  obtain ⟨I, hI⟩ : ∃ I : Nat → St → Prop, ∀ m s, I m s ↔ ∃ (i : Nat) (out : List DOp), i ≤ xs.length ∧ m = xs.length - i ∧ out = opsOf (xs.take i) ∧
    s = { env := [(0, .agg [.sl .no xs.length (encR .no (tItemS xs))]), (1, .ptr 0 0 0), (2, .sl .nil 0 []), (3, .sl (.of 150) out.length (encR .of (tOpS out))), (9, .sl .no xs.length (encR .no (tItemS xs))), (10, .int .i64 xs.length), (11, .int .i64 i)], loc := [], K := [[.sl .no xs.length (encR .no (tItemS xs))]] :: K } := ⟨_, fun _ _ => Iff.rfl⟩
  refine wC_loopI I xs.length ((hI _ _).2 ⟨0, [], by omega, rfl, rfl, rfl⟩) (St.le_of (by simp) (by simp [tOpS, encR]) rfl rfl) ?_
  intro m s hm
  obtain ⟨i, out, hi, rfl, ho, rfl⟩ := (hI _ _).1 hm
  have hlo := opsOf_len (xs := xs.take i)
  rw [← ho, List.length_take, Nat.min_eq_left hi] at hlo
  have hlc : (encR .of (tOpS out)).length = out.length * 5 := by rw [encOpS_len]
  rcases Nat.lt_or_ge i xs.length with hlt | hge
  · obtain ⟨x, hx⟩ : ∃ x, xs[i]? = some x := ⟨_, List.getElem?_eq_getElem hlt⟩
    have ea := atItem (m := .no) hx
    have es := szR_get (tItemS_get hx)
    have el := szR_take_le (rs := tItemS xs) (i + 1)
    have hz := szItem x
    have hzf := szOp x.op_
    have hc0 := fun K => c_cloneVars x.op_.vars K (by omega)
    have hc1 := fun K => c_cloneDirs x.op_.dirs K (by omega)
    have hc2 := fun K => c_cloneSels x.op_.sels K (by omega)
    have hnx := opsOf_take hx
    rw [← ho] at hnx
    have hn := snocOp (m := .of) (xs := out) (x := x.op_)
    have wi : IntKind.i64.wrap ((i : Int) + 1) = (i + 1 : Nat) := by rw [wrap64 (by omega) (by omega)]; rfl
    obtain ⟨k, ⟨o0, o1, o2, o3, o4⟩, ⟨f0, f1, f2, f3⟩, ⟨d0, d1, d2, d3, d4, d5, d6, d7, d8, d9, d10⟩⟩ := x
    dsimp only at hnx
    simp only [tItem, tOp, tFrag, tDef, encL_app, encL, encT, List.cons_append, List.nil_append, Md.ow_no, Md.ow_of, tStrS_len, tVarDefS_len, tDirS_len, tSelS_len, tFieldDefS_len, tInDefS_len, tEnumDefS_len, tRootS_len] at hc0 hc1 hc2 ea hn
    simp -implicitDefEqProofs [hlt, ea, encItemS_len, wi]
    refine ⟨fun h2 => ?_, fun h2 => ?_⟩
    · rw [if_pos h2] at hnx
      refine callK_of (hc0 _) ?_
      simp -implicitDefEqProofs [hlt, ea, encItemS_len, wi]
      refine callK_of (hc1 _) ?_
      simp -implicitDefEqProofs [hlt, ea, encItemS_len, wi]
      refine callK_of (hc2 _) ?_
      simp -implicitDefEqProofs [hlt, ea, encItemS_len, wi]
      rw [← hn]
      refine ⟨by unfold maxLen; omega, by omega, ?_⟩
      exact ⟨xs.length - (i + 1), by omega, _, St.le_of (by simp) (by simp [St.trunc, look, mapV, mapC, killP]) rfl (by simp [St.trunc, mapC]), (hI _ _).2 ⟨i + 1, out ++ [⟨o0, o1, o2, o3, o4⟩], by omega, rfl, hnx.symm, rfl⟩⟩
    · rw [if_neg h2, List.append_nil] at hnx
      exact ⟨xs.length - (i + 1), by omega, _, St.le_of (by simp) (by simp [St.trunc, look, mapV, mapC, killP]) rfl (by simp [St.trunc, mapC]), (hI _ _).2 ⟨i + 1, out, by omega, rfl, hnx.symm, rfl⟩⟩
  · have e : i = xs.length := by omega
    subst e
    rw [List.take_of_length_le (Nat.le_refl _), hr] at ho
    subst ho
    simp -implicitDefEqProofs
theorem c_OpsInS (d : DDoc) (K) (hs : szL (tDoc d) ≤ 1048576) : Ct Tryz.prog 45 [.agg (encL .no (tDoc d))] K (.sl (.of 150) (opsIn d).length (encR .of (tOpS (opsIn d)))) K := by
  generalize hr : opsIn d = r
  unfold opsIn at hr
  obtain ⟨xs⟩ := d
  simp only [tDoc, szL, szT, tItemS_len] at hs hr
  refine ct_fn { n0 := 5, ex := [], tk := [5, 20, 27, 28, 29, 30] } Tryz.func45 rfl (by kernel_rfl) (by kernel_rfl) rfl ?_
  simp -implicitDefEqProofs [Tryz.f45, tDoc, encL, encT]
  obtain ⟨I, hI⟩ : ∃ I : Nat → St → Prop, ∀ m s, I m s ↔ ∃ (i : Nat) (out : List DOp), i ≤ xs.length ∧ m = xs.length - i ∧ out = opsOf (xs.take i) ∧
    s = { env := [(0, .agg [.sl .no xs.length (encR .no (tItemS xs))]), (1, .ptr 0 0 0), (2, .sl .nil 0 []), (3, .sl (.of 150) out.length (encR .of (tOpS out))), (4, .int .i64 i)], loc := [], K := [[.sl .no xs.length (encR .no (tItemS xs))]] :: K } := ⟨_, fun _ _ => Iff.rfl⟩
  refine wC_loopI I xs.length ((hI _ _).2 ⟨0, [], by omega, rfl, rfl, rfl⟩) (St.le_of (by simp) (by simp [tOpS, encR]) rfl rfl) ?_
  intro m s hm
  obtain ⟨i, out, hi, rfl, ho, rfl⟩ := (hI _ _).1 hm
  have hlo := opsOf_len (xs := xs.take i)
  rw [← ho, List.length_take, Nat.min_eq_left hi] at hlo
  have hlc : (encR .of (tOpS out)).length = out.length * 5 := by rw [encOpS_len]
  rcases Nat.lt_or_ge i xs.length with hlt | hge
  · obtain ⟨x, hx⟩ : ∃ x, xs[i]? = some x := ⟨_, List.getElem?_eq_getElem hlt⟩
    have ea := atItem (m := .no) hx
    have es := szR_get (tItemS_get hx)
    have el := szR_take_le (rs := tItemS xs) (i + 1)
    have hz := szItem x
    have hzf := szOp x.op_
    have hc1 := fun K => c_l12Op x.op_ K (by omega)
    have hnx := opsOf_take hx
    rw [← ho] at hnx
    have hn := snocOp (m := .of) (xs := out) (x := x.op_)
    have wi : IntKind.i64.wrap ((i : Int) + 1) = (i + 1 : Nat) := by rw [wrap64 (by omega) (by omega)]; rfl
    obtain ⟨k, ⟨o0, o1, o2, o3, o4⟩, ⟨f0, f1, f2, f3⟩, ⟨d0, d1, d2, d3, d4, d5, d6, d7, d8, d9, d10⟩⟩ := x
    dsimp only at hnx
    simp only [tItem, tOp, tFrag, tDef, encL_app, encL, encT, List.cons_append, List.nil_append, Md.ow_no, Md.ow_of, tStrS_len, tVarDefS_len, tDirS_len, tSelS_len, tFieldDefS_len, tInDefS_len, tEnumDefS_len, tRootS_len] at hc1 ea hn
    simp -implicitDefEqProofs [hlt, ea, encItemS_len, wi]
    intro hm1
    refine ⟨fun h2 => ?_, fun h2 => ?_⟩
    · rw [if_pos h2] at hnx
      refine callK_of (hc1 _) ?_
      simp -implicitDefEqProofs [hlt, ea, encItemS_len, wi]
      rw [← hn]
      refine ⟨by unfold maxLen; omega, by omega, ?_⟩
      exact ⟨xs.length - (i + 1), by omega, _, St.le_of (by simp) (by simp [St.trunc, look, mapV, mapC, killP]) rfl (by simp [St.trunc, mapC]), (hI _ _).2 ⟨i + 1, out ++ [⟨o0, o1, o2, o3, o4⟩], by omega, rfl, hnx.symm, rfl⟩⟩
    · rw [if_neg h2, List.append_nil] at hnx
      exact ⟨xs.length - (i + 1), by omega, _, St.le_of (by simp) (by simp [St.trunc, look, mapV, mapC, killP]) rfl (by simp [St.trunc, mapC]), (hI _ _).2 ⟨i + 1, out, by omega, rfl, hnx.symm, rfl⟩⟩
  · have e : i = xs.length := by omega
    subst e
    rw [List.take_of_length_le (Nat.le_refl _), hr] at ho
    subst ho
    simp -implicitDefEqProofs
end Go.Proofs.YthpbggfajpakkaaGreat.Abs
