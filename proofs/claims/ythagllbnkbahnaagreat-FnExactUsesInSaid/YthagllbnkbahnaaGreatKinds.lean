/- TypeAt, KindOf, IsLeaf, SameShape. No condition. -/
import Derived.Test.YthagllbnkbahnaaGreatFam
import Derived.Test.YthagllbnkbahnaaGreatLib
set_option linter.unusedVariables false
set_option linter.unusedSimpArgs false
namespace Go.Proofs.YthagllbnkbahnaaGreat.Abs
open Go
set_option maxHeartbeats 1000000
set_option maxRecDepth 100000
def defAt (xs : List DDef) (name : Bs) : Int := if 60 < xs.length then -1 else idxOf (fun d => decide (d.name = name)) xs 0
def builtIn (n : Bs) : Bool := decide (n = [73, 110, 116]) || decide (n = [70, 108, 111, 97, 116]) || decide (n = [83, 116, 114, 105, 110, 103]) || decide (n = [66, 111, 111, 108, 101, 97, 110]) || decide (n = [73, 68])
theorem c_named1 (x : DDef) (name : Bs) (K) : Ct Tryz.prog 143 [.agg (encL .no (tDef x)), .ptr 1 0 0] ([] :: [[.str name]] :: K) (.bool (decide (x.name = name))) ([] :: [[.str name]] :: K) := by
  obtain ⟨x0, x1, x2, x3, x4, x5, x6, x7, x8, x9, x10⟩ := x
  refine ct_fn { n0 := 4, ex := [], tk := [] } Tryz.func143 rfl (by kernel_rfl) (by kernel_rfl) rfl ?_
  simp -implicitDefEqProofs [Tryz.f143, tDef, encL, encT]
theorem c_named (xs : List DDef) (name : Bs) (K) : Ct Tryz.prog 115 [.sl .no xs.length (encR .no (tDefS xs)), .str name] K (.int .i64 (defAt xs name)) K := by
  refine ct_fn { n0 := 5, ex := [], tk := [10] } Tryz.func115 rfl (by kernel_rfl) (by kernel_rfl) rfl ?_
  simp -implicitDefEqProofs [Tryz.f115]
  intro h1
  refine ⟨fun h => by unfold defAt; rw [if_pos (by omega)], fun h => ?_⟩
  refine callK_of (c_IndexFuncDef xs (fun x => decide (x.name = name)) _ _ _ (fun x hx => by simpa using c_named1 x name _)) ?_
  simp -implicitDefEqProofs
  unfold defAt; rw [if_neg (by omega)]
theorem c_TypeAt (s : DSchema) (name : Bs) (K) : Ct Tryz.prog 109 [.agg (encL .no (tSchema s)), .str name] K (.int .i64 (defAt s.types name)) K := by
  obtain ⟨x0, x1, x2⟩ := s
  refine ct_fn { n0 := 5, ex := [], tk := [8] } Tryz.func109 rfl (by kernel_rfl) (by kernel_rfl) rfl ?_
  simp -implicitDefEqProofs [Tryz.f109, tSchema, encL, encT]
  refine callK_of (c_named x0 name _) ?_
  simp -implicitDefEqProofs
theorem c_TypeAtS (s : DSchema) (name : Bs) (K) : Ct Tryz.prog 97 [.agg (encL .no (tSchema s)), .str name] K (.int .i64 (defAt s.types name)) K := by
  obtain ⟨x0, x1, x2⟩ := s
  refine ct_fn { n0 := 6, ex := [], tk := [27] } Tryz.func97 rfl (by kernel_rfl) (by kernel_rfl) rfl ?_
  simp -implicitDefEqProofs [Tryz.f97, tSchema, encL, encT]
  generalize hr : defAt x0 name = r
  obtain ⟨I, hI⟩ : ∃ I : Nat → St → Prop, ∀ m s, I m s ↔ ∃ i, i ≤ x0.length ∧ m = x0.length - i ∧ (60 < x0.length → i = 0) ∧ idxOf (fun d => decide (d.name = name)) (x0.drop i) i = idxOf (fun d => decide (d.name = name)) x0 0 ∧
    s = { env := [(0, .agg [.sl .no x0.length (encR .no (tDefS x0)), .sl .no x1.length (encR .no (tDefS x1)), .sl .no x2.length (encR .no (tRootS x2))]), (1, .str name), (2, .ptr 0 0 0), (4, .int .i64 0), (5, .int .i64 i)],
          loc := [], K := [[.sl .no x0.length (encR .no (tDefS x0)), .sl .no x1.length (encR .no (tDefS x1)), .sl .no x2.length (encR .no (tRootS x2))]] :: K } := ⟨_, fun _ _ => Iff.rfl⟩
  refine wC_loopI I x0.length ((hI _ _).2 ⟨0, by omega, rfl, fun _ => rfl, rfl, rfl⟩) (St.le_of (by simp) (by simp) rfl rfl) ?_
  intro m s hs
  obtain ⟨i, hi, rfl, hi0, hz, rfl⟩ := (hI _ _).1 hs
  rcases Nat.lt_or_ge i x0.length with hlt | hge
  · obtain ⟨x, hx⟩ : ∃ x, x0[i]? = some x := ⟨_, List.getElem?_eq_getElem hlt⟩
    have ea := atDef (m := .no) hx
    have ed := idxOf_drop (p := fun d => decide (d.name = name)) hx i
    obtain ⟨y0, y1, y2, y3, y4, y5, y6, y7, y8, y9, y10⟩ := x
    simp only [tDef, encL, encT] at ea
    simp -implicitDefEqProofs [hlt, ea, encDefS_len]
    intro hm
    refine ⟨fun h60 => ⟨fun h => ?_, fun h => ?_⟩, fun h60 => ?_⟩
    · rw [← hr]; unfold defAt; rw [if_neg (by omega), ← hz, ed]; simp [h]
    · unfold maxLen at *
      simp (disch := omega) only [wrap64]
      refine ⟨x0.length - (i + 1), by omega, _, St.le_of (by simp) (by simp [St.trunc, look, mapV, mapC, killP]) rfl (by simp [St.trunc, mapC]), (hI _ _).2 ⟨i + 1, by omega, rfl, fun h => by omega, ?_, rfl⟩⟩
      rw [← hz, ed]; simp [h]
    · rw [← hr]; unfold defAt; rw [if_pos (by omega)]
  · have e : i = x0.length := by omega
    subst e
    simp -implicitDefEqProofs
    intro hm
    rw [← hr]; unfold defAt
    split
    · rfl
    · rw [← hz]; simp [idxOf]
theorem c_BuiltIn (n : Bs) (K) : Ct Tryz.prog 136 [.str n] K (.bool (builtIn n)) K := by
  generalize hr : builtIn n = r
  unfold builtIn at hr
  refine ct_fn { n0 := 3, ex := [3, 4], tk := [] } Tryz.func136 rfl (by kernel_rfl) (by kernel_rfl) rfl ?_
  simp -implicitDefEqProofs [Tryz.f136]
  subst hr
  by_cases e1 : n = [73, 110, 116]
  · subst e1; simp
  · by_cases e2 : n = [70, 108, 111, 97, 116]
    · subst e2; simp
    · by_cases e3 : n = [83, 116, 114, 105, 110, 103]
      · subst e3; simp
      · by_cases e4 : n = [66, 111, 111, 108, 101, 97, 110]
        · subst e4; simp
        · by_cases e5 : n = [73, 68]
          · subst e5; simp
          · simp [e1, e2, e3, e4, e5]
theorem c_BuiltInS (n : Bs) (K) : Ct Tryz.prog 151 [.str n] K (.bool (builtIn n)) K := by
  generalize hr : builtIn n = r
  unfold builtIn at hr
  refine ct_fn { n0 := 3, ex := [], tk := [] } Tryz.func151 rfl (by kernel_rfl) (by kernel_rfl) rfl ?_
  simp -implicitDefEqProofs [Tryz.f151]
  rw [← hr]
def zDef : DDef := ⟨0, false, [], [], [], [], [], [], [], false, []⟩
def defOf (xs : List DDef) (name : Bs) : DDef := if defAt xs name < 0 then zDef else xs[(defAt xs name).toNat]?.getD zDef
theorem defAt_get {xs : List DDef} {name : Bs} (h : ¬ defAt xs name < 0) : ∃ i x, defAt xs name = (i : Nat) ∧ i < xs.length ∧ xs[i]? = some x ∧ defOf xs name = x := by
  have h2 : 0 ≤ defAt xs name ∧ defAt xs name < xs.length := by
    refine ⟨by omega, ?_⟩
    unfold defAt at h ⊢
    split at h
    · omega
    · rename_i h60
      rw [if_neg h60]
      rcases idxOf_le (p := fun d : DDef => decide (d.name = name)) (xs := xs) (k := 0) (by omega) with h3 | ⟨rfl, h3⟩ <;> omega
  refine ⟨(defAt xs name).toNat, xs[(defAt xs name).toNat]'(by omega), by omega, by omega, List.getElem?_eq_getElem (by omega), ?_⟩
  unfold defOf
  rw [if_neg h, List.getElem?_eq_getElem (by omega)]; rfl
theorem c_typeDef (s : DSchema) (name : Bs) (K) : Ct Tryz.prog 66 [.agg (encL .no (tSchema s)), .str name] K (.tup [.agg (encL .no (tDef (defOf s.types name))), .bool (decide (0 ≤ defAt s.types name))]) K := by
  have hc := c_TypeAt s name
  obtain ⟨x0, x1, x2⟩ := s
  simp only [tSchema, encL, encT, Md.ow_no, tDefS_len, tRootS_len] at hc
  refine ct_fn { n0 := 7, ex := [], tk := [9, 12, 17] } Tryz.func66 rfl (by kernel_rfl) (by kernel_rfl) rfl ?_
  simp -implicitDefEqProofs [Tryz.f66, tSchema, encL, encT]
  refine callK_of (hc _) ?_
  simp -implicitDefEqProofs
  refine ⟨fun h => ?_, fun h => ?_⟩
  · refine ⟨?_, h⟩
    have ex : defOf x0 name = zDef := by unfold defOf; rw [if_pos h]
    rw [ex]
    refine AC.le_agg ?_
    simp [zDef, tDef, encL, encT, encR, tStrS, tFieldDefS, tInDefS, tEnumDefS, tRootS, tDirS]
  · obtain ⟨i, x, e, hlt, hx, ex⟩ := defAt_get (name := name) (xs := x0) (by omega)
    have ea := atDef (m := .no) hx
    obtain ⟨y0, y1, y2, y3, y4, y5, y6, y7, y8, y9, y10⟩ := x
    rw [e, ex]
    simp only [tDef, encL, encT] at ea
    simp -implicitDefEqProofs [tDef, encL, encT, hlt, ea, encDefS_len]
    omega
def kindOf (xs : List DDef) (name : Bs) : Int := if 0 ≤ defAt xs name then (defOf xs name).kind else if builtIn name then 1 else 0
def isLeaf (xs : List DDef) (name : Bs) : Bool := decide (kindOf xs name = 1) || decide (kindOf xs name = 5)
theorem c_KindOf (s : DSchema) (name : Bs) (K) : Ct Tryz.prog 108 [.agg (encL .no (tSchema s)), .str name] K (.int .i64 (kindOf s.types name)) K := by
  have hc := c_typeDef s name
  obtain ⟨x0, x1, x2⟩ := s
  generalize hr : kindOf _ _ = r
  unfold kindOf at hr
  simp only [tSchema, encL, encT, Md.ow_no, tDefS_len, tRootS_len] at hc hr
  generalize hd : defOf x0 name = d at *
  obtain ⟨y0, y1, y2, y3, y4, y5, y6, y7, y8, y9, y10⟩ := d
  simp only [tDef, encL, encT, Md.ow_no] at hc
  refine ct_fn { n0 := 7, ex := [], tk := [10, 16, 19] } Tryz.func108 rfl (by kernel_rfl) (by kernel_rfl) rfl ?_
  simp -implicitDefEqProofs [Tryz.f108, tSchema, encL, encT]
  refine callK_of (hc _) ?_
  simp -implicitDefEqProofs
  refine ⟨fun h => by rw [← hr, if_pos h], fun h => ?_⟩
  refine callK_of (c_BuiltIn name _) ?_
  simp -implicitDefEqProofs
  rw [if_neg (by omega)] at hr
  refine ⟨fun h2 => ?_, fun h2 => ?_⟩ <;> rw [← hr, h2] <;> simp
theorem c_KindOfS (s : DSchema) (name : Bs) (K) : Ct Tryz.prog 128 [.agg (encL .no (tSchema s)), .str name] K (.int .i64 (kindOf s.types name)) K := by
  have hc := c_TypeAtS s name
  obtain ⟨x0, x1, x2⟩ := s
  generalize hr : kindOf _ _ = r
  unfold kindOf at hr
  simp only [tSchema, encL, encT, Md.ow_no, tDefS_len, tRootS_len] at hc hr
  refine ct_fn { n0 := 6, ex := [], tk := [8, 16, 18] } Tryz.func128 rfl (by kernel_rfl) (by kernel_rfl) rfl ?_
  simp -implicitDefEqProofs [Tryz.f128, tSchema, encL, encT]
  refine callK_of (hc _) ?_
  simp -implicitDefEqProofs
  refine ⟨fun h => ?_, fun h => ?_⟩
  · obtain ⟨i, x, e, hlt, hx, ex⟩ := defAt_get (name := name) (xs := x0) (by omega)
    have ea := atDef (m := .no) hx
    rw [if_pos h, ex] at hr
    obtain ⟨y0, y1, y2, y3, y4, y5, y6, y7, y8, y9, y10⟩ := x
    rw [e]
    simp only [tDef, encL, encT] at ea
    simp -implicitDefEqProofs [hlt, ea, encDefS_len]
    exact ⟨by omega, by omega, hr.symm⟩
  · refine callK_of (c_BuiltInS name _) ?_
    simp -implicitDefEqProofs
    rw [if_neg (by omega)] at hr
    refine ⟨fun h2 => ?_, fun h2 => ?_⟩ <;> rw [← hr, h2] <;> simp
def sameShape (s : DSchema) (a b : DType) : Bool := decide (a.wraps = b.wraps) && (decide (a.name = b.name) || !(isLeaf s.types a.name) && !(isLeaf s.types b.name))
end Go.Proofs.YthagllbnkbahnaaGreat.Abs
