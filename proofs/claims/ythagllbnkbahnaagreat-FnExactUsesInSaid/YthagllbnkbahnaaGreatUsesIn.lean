/- The directives that are built in, and the directive of a name. No condition. -/
import Derived.Test.YthagllbnkbahnaaGreatUsesOf
import Derived.Test.YthagllbnkbahnaaGreatPlacesY
import Derived.Test.YthagllbnkbahnaaGreatFz
set_option linter.unusedVariables false
set_option linter.unusedSimpArgs false
namespace Go.Proofs.YthagllbnkbahnaaGreat.Abs
open Go
set_option maxHeartbeats 1000000
set_option maxRecDepth 100000
def dirOf (ds : List DDef) (bs : List DDef) (name : Bs) : DDef := if defAt ds name < 0 then defOf bs name else defOf ds name
def flowD (n : Bs) : DDef := ⟨7, false, [], n, [[70, 73, 69, 76, 68], [70, 82, 65, 71, 77, 69, 78, 84, 95, 83, 80, 82, 69, 65, 68], [73, 78, 76, 73, 78, 69, 95, 70, 82, 65, 71, 77, 69, 78, 84]], [],
  [⟨[105, 102], [], ⟨[66, 111, 111, 108, 101, 97, 110], [33]⟩, false, ⟨0, [], [], []⟩, []⟩], [], [], false, []⟩
def deprD : DDef := ⟨7, false, [], [100, 101, 112, 114, 101, 99, 97, 116, 101, 100], [[70, 73, 69, 76, 68, 95, 68, 69, 70, 73, 78, 73, 84, 73, 79, 78], [65, 82, 71, 85, 77, 69, 78, 84, 95, 68, 69, 70, 73, 78, 73, 84, 73, 79, 78], [73, 78, 80, 85, 84, 95, 70, 73, 69, 76, 68, 95, 68, 69, 70, 73, 78, 73, 84, 73, 79, 78], [69, 78, 85, 77, 95, 86, 65, 76, 85, 69]], [],
  [⟨[114, 101, 97, 115, 111, 110], [], ⟨[83, 116, 114, 105, 110, 103], []⟩, true, ⟨4, [78, 111, 32, 108, 111, 110, 103, 101, 114, 32, 115, 117, 112, 112, 111, 114, 116, 101, 100], [], []⟩, []⟩], [], [], false, []⟩
def inclN : Bs := [105, 110, 99, 108, 117, 100, 101]
def skipN : Bs := [115, 107, 105, 112]
def builtD : List DDef := [deprD, flowD inclN, flowD skipN]
theorem c_BuiltDirs (K) : Ct Tryz.prog 116 [] K (.sl (.of 110) 3 (encR .no (tDefS builtD))) K := by
  refine ct_fn { n0 := 6, ex := [14, 15, 16], tk := [6, 7, 8, 12, 13, 20, 21, 22, 27, 28, 29, 31] } Tryz.func116 rfl (by kernel_rfl) (by kernel_rfl) rfl ?_
  simp -implicitDefEqProofs [Tryz.f116]
  intro hm0
  obtain ⟨I, hI⟩ : ∃ I : Nat → St → Prop, ∀ m s0, I m s0 ↔ ∃ i, i ≤ 2 ∧ m = 2 - i ∧
    s0 = { env := [(0, .sl .nil 0 []), (1, .ptr 0 0 0), (2, .sl (.of 110) (i + 1) (encR .no (tDefS (builtD.take (i + 1))))), (14, .sl (.of 9) 2 [.str inclN, .str skipN]), (15, .int .i64 2), (16, .int .i64 i)], loc := [], K := [[.str [114, 101, 97, 115, 111, 110], .str [], .str [83, 116, 114, 105, 110, 103], .str [], .bool true, .int .i64 4, .str [78, 111, 32, 108, 111, 110, 103, 101, 114, 32, 115, 117, 112, 112, 111, 114, 116, 101, 100], .sl .nil 0 [], .sl .nil 0 [], .sl .nil 0 []]] :: K } := ⟨_, fun _ _ => Iff.rfl⟩
  refine wC_loopI I 2 ((hI _ _).2 ⟨0, by omega, rfl, rfl⟩) (St.le_of (by simp) (by simp (maxDischargeDepth := 6) [builtD, deprD, flowD, tDefS, tDef, tInDefS, tInDef, tType, tValue, tStrS, tDirS, tFieldDefS, tEnumDefS, tRootS, tValueS, encR, encL_app, encL, encT, inclN, skipN, AC.le_sl]) rfl rfl) ?_
  intro m s0 hs0
  obtain ⟨i, hi, rfl, rfl⟩ := (hI _ _).1 hs0
  rcases (by omega : i = 0 ∨ i = 1 ∨ i = 2) with rfl | rfl | rfl
  · simp -implicitDefEqProofs [IntKind.wrap_i64]
    refine ⟨hm0, 1, by omega, _, St.le_of (by simp) (by simp (maxDischargeDepth := 6) [St.trunc, look, mapV, mapC, killP, builtD, deprD, flowD, tDefS, tDef, tInDefS, tInDef, tType, tValue, tStrS, tDirS, tFieldDefS, tEnumDefS, tRootS, tValueS, encR, encL_app, encL, encT, inclN, skipN, AC.le_sl]) rfl (by simp [St.trunc, mapC]), (hI _ _).2 ⟨1, by omega, rfl, rfl⟩⟩
  · simp -implicitDefEqProofs [IntKind.wrap_i64]
    refine ⟨by unfold maxLen; omega, 0, by omega, _, St.le_of (by simp) (by simp (maxDischargeDepth := 6) [St.trunc, look, mapV, mapC, killP, builtD, deprD, flowD, tDefS, tDef, tInDefS, tInDef, tType, tValue, tStrS, tDirS, tFieldDefS, tEnumDefS, tRootS, tValueS, encR, encL_app, encL, encT, inclN, skipN, AC.le_sl]) rfl (by simp [St.trunc, mapC]), (hI _ _).2 ⟨2, by omega, rfl, rfl⟩⟩
  · simp -implicitDefEqProofs
    simp [builtD]
theorem c_l17Flow (n : Bs) (K) : Ct Tryz.prog 154 [.str n] K (.agg (encL .no (tDef (flowD n)))) K := by
  refine ct_fn { n0 := 3, ex := [], tk := [4, 5, 8] } Tryz.func154 rfl (by kernel_rfl) (by kernel_rfl) rfl ?_
  simp -implicitDefEqProofs [Tryz.f154]
  refine AC.le_agg ?_
  simp (maxDischargeDepth := 6) [builtD, deprD, flowD, tDefS, tDef, tInDefS, tInDef, tType, tValue, tStrS, tDirS, tFieldDefS, tEnumDefS, tRootS, tValueS, encR, encL_app, encL, encT, inclN, skipN, AC.le_sl]
theorem c_BuiltDirsS (K) : Ct Tryz.prog 131 [] K (.sl (.of 110) 3 (encR .no (tDefS builtD))) K := by
  have hc := fun n K => c_l17Flow n K
  simp only [flowD, tDef, encL, encT] at hc
  refine ct_fn { n0 := 2, ex := [], tk := [2, 3, 4, 7, 9, 10, 11] } Tryz.func131 rfl (by kernel_rfl) (by kernel_rfl) rfl ?_
  simp -implicitDefEqProofs [Tryz.f131]
  refine wRun_draw true rfl (by decide +kernel) ?_
  simp -implicitDefEqProofs
  refine callK_of (hc _ _) ?_
  simp -implicitDefEqProofs
  refine callK_of (hc _ _) ?_
  simp -implicitDefEqProofs
  simp (maxDischargeDepth := 6) [builtD, deprD, flowD, tDefS, tDef, tInDefS, tInDef, tType, tValue, tStrS, tDirS, tFieldDefS, tEnumDefS, tRootS, tValueS, encR, encL_app, encL, encT, inclN, skipN, AC.le_sl]
end Go.Proofs.YthagllbnkbahnaaGreat.Abs
/- UsesIn: what it computes. No condition. -/
set_option linter.unusedVariables false
set_option linter.unusedSimpArgs false
namespace Go.Proofs.YthagllbnkbahnaaGreat.Abs
open Go
def argU (ts : List DDef) (ins : List DInDef) : List DArg → List DUse
  | [] => []
  | a :: al => usesX ts ins a.value (some a.name) ++ argU ts ins al
theorem argU_app {ts : List DDef} {ins : List DInDef} : ∀ {a b : List DArg}, argU ts ins (a ++ b) = argU ts ins a ++ argU ts ins b := by
  intro a; induction a with
  | nil => intro b; simp [argU]
  | cons x a ih => intro b; simp [argU, ih]
theorem argU_take {ts : List DDef} {ins : List DInDef} {xs : List DArg} {i : Nat} {x : DArg} (h : xs[i]? = some x) : argU ts ins (xs.take (i + 1)) = argU ts ins (xs.take i) ++ usesX ts ins x.value (some x.name) := by
  rw [List.take_add_one, h, argU_app]; simp [argU]
theorem usesX_len (ts : List DDef) (ins : List DInDef) (v : DValue) (n : Option Bs) : (usesX ts ins v n).length ≤ 1 + szL (tValue v) := by
  have h3 := varsV_len v
  cases n with
  | none => simp only [usesX]; rw [freeU_len]; omega
  | some n =>
    have h1 := usesV_len ts v (inOf ins n).ty (inOf ins n).has
    simp only [usesX]
    split
    · omega
    · rw [freeU_len]; omega
theorem argU_len (ts : List DDef) (ins : List DInDef) : ∀ (al : List DArg), (argU ts ins al).length ≤ al.length + szR (tArgS al) := by
  intro al; induction al with
  | nil => simp [argU]
  | cons a al ih =>
    have h := usesX_len ts ins a.value (some a.name)
    obtain ⟨n, v⟩ := a
    simp only [argU, tArgS, tArg, szR, szL, szT, List.length_cons, List.length_append, List.cons_append, List.nil_append] at h ⊢
    omega
theorem argU_take_len (ts : List DDef) (ins : List DInDef) (al : List DArg) (i : Nat) : (argU ts ins (al.take i)).length ≤ al.length + szR (tArgS al) := by
  have h := argU_len ts ins al
  have e : argU ts ins al = argU ts ins (al.take i) ++ argU ts ins (al.drop i) := by rw [← argU_app, List.take_append_drop]
  rw [e, List.length_append] at h
  omega
/-- The uses in directives, of which ds (and bs, which are built in) tell. -/
def dirU (ts ds bs : List DDef) : List DDir → List DUse
  | [] => []
  | d :: r => argU ts (dirOf ds bs d.name).inputs d.args ++ dirU ts ds bs r
theorem dirU_app {ts ds bs : List DDef} : ∀ {a b : List DDir}, dirU ts ds bs (a ++ b) = dirU ts ds bs a ++ dirU ts ds bs b := by
  intro a; induction a with
  | nil => intro b; simp [dirU]
  | cons x a ih => intro b; simp [dirU, ih]
theorem dirU_take {ts ds bs : List DDef} {xs : List DDir} {i : Nat} {x : DDir} (h : xs[i]? = some x) : dirU ts ds bs (xs.take (i + 1)) = dirU ts ds bs (xs.take i) ++ argU ts (dirOf ds bs x.name).inputs x.args := by
  rw [List.take_add_one, h, dirU_app]; simp [dirU]
theorem dirU_len (ts ds bs : List DDef) : ∀ (xs : List DDir), (dirU ts ds bs xs).length ≤ szR (tDirS xs) := by
  intro xs; induction xs with
  | nil => simp [dirU]
  | cons x xs ih =>
    have h := argU_len ts (dirOf ds bs x.name).inputs x.args
    obtain ⟨n, al⟩ := x
    simp only [dirU, tDirS, tDir, szR, szL, szT, List.length_cons, List.length_append, tArgS_len] at h ⊢
    omega
theorem dirU_take_len (ts ds bs : List DDef) (xs : List DDir) (i : Nat) : (dirU ts ds bs (xs.take i)).length ≤ szR (tDirS xs) := by
  have h := dirU_len ts ds bs xs
  have e : dirU ts ds bs xs = dirU ts ds bs (xs.take i) ++ dirU ts ds bs (xs.drop i) := by rw [← dirU_app, List.take_append_drop]
  rw [e, List.length_append] at h
  omega
def plcU1 (ts ds bs : List DDef) (p : DPlace) : List DUse := argU ts (fldDef ts p.owner p.sel.name).args p.sel.args ++ dirU ts ds bs p.sel.dirs
def plcU (ts ds bs : List DDef) : List DPlace → List DUse
  | [] => []
  | p :: r => plcU1 ts ds bs p ++ plcU ts ds bs r
theorem plcU_app {ts ds bs : List DDef} : ∀ {a b : List DPlace}, plcU ts ds bs (a ++ b) = plcU ts ds bs a ++ plcU ts ds bs b := by
  intro a; induction a with
  | nil => intro b; simp [plcU]
  | cons x a ih => intro b; simp [plcU, ih]
theorem plcU_take {ts ds bs : List DDef} {xs : List DPlace} {i : Nat} {x : DPlace} (h : xs[i]? = some x) : plcU ts ds bs (xs.take (i + 1)) = plcU ts ds bs (xs.take i) ++ plcU1 ts ds bs x := by
  rw [List.take_add_one, h, plcU_app]; simp [plcU]
theorem plcU1_len (ts ds bs : List DDef) (p : DPlace) : (plcU1 ts ds bs p).length ≤ szL (tSel p.sel) := by
  obtain ⟨o, ⟨k, a, n, on_, args, dirs, sels⟩⟩ := p
  have h1 := argU_len ts (fldDef ts o n).args args
  have h2 := dirU_len ts ds bs dirs
  simp only [plcU1, tSel, szL, szT, List.length_append, tArgS_len, tDirS_len, tSelS_len] at h1 h2 ⊢
  omega
theorem plcU_plc_len (ts ds bs : List DDef) : ∀ N : Nat, ∀ (xs : List DSel) (owner : Bs), SizeOf.sizeOf xs < N → (plcU ts ds bs (plcS ts owner xs)).length ≤ szR (tSelS xs) := by
  intro N
  induction N with
  | zero => intros; omega
  | succ N ih =>
    intro xs owner hN
    cases xs with
    | nil => simp [plcS, plcU]
    | cons x xs =>
      have h2 := ih xs owner (by simp at hN; omega)
      obtain ⟨k, a, n, o, args, dirs, sels⟩ := x
      have h1 := ih sels (belowN ts owner k n o) (by simp at hN; omega)
      have h3 := plcU1_len ts ds bs ⟨owner, ⟨k, a, n, o, args, dirs, []⟩⟩
      simp only [plcS, plcX, plcU_app, plcU, List.length_append, List.cons_append] at h1 h2 h3 ⊢
      simp only [tSelS, szR, tSel, szL, szT, tArgS_len, tDirS_len, tSelS_len, List.length_nil] at h1 h2 h3 ⊢
      omega
theorem plcU_take_len (ts ds bs : List DDef) (xs : List DSel) (owner : Bs) (i : Nat) : (plcU ts ds bs ((plcS ts owner xs).take i)).length ≤ szR (tSelS xs) := by
  have h := plcU_plc_len ts ds bs _ xs owner (Nat.lt_succ_self _)
  have e : plcU ts ds bs (plcS ts owner xs) = plcU ts ds bs ((plcS ts owner xs).take i) ++ plcU ts ds bs ((plcS ts owner xs).drop i) := by rw [← plcU_app, List.take_append_drop]
  rw [e, List.length_append] at h
  omega
end Go.Proofs.YthagllbnkbahnaaGreat.Abs
/- The directive of a name: both sides. No condition. -/
set_option linter.unusedVariables false
set_option linter.unusedSimpArgs false
namespace Go.Proofs.YthagllbnkbahnaaGreat.Abs
open Go
set_option maxHeartbeats 1000000
set_option maxRecDepth 100000
theorem zDef_le : (AC.agg [.int .i64 0, .bool false, .str [], .str [], .sl .nil 0 [], .sl .nil 0 [], .sl .nil 0 [], .sl .nil 0 [], .sl .nil 0 [], .bool false, .sl .nil 0 []]).le (AC.agg (encL .no (tDef zDef))) := by
  refine AC.le_agg ?_
  simp [zDef, tDef, encL, encT, encR, tStrS, tFieldDefS, tInDefS, tEnumDefS, tRootS, tDirS]
def dirOk (ds : List DDef) (bs : List DDef) (name : Bs) : Bool := decide (0 ≤ defAt ds name) || decide (0 ≤ defAt bs name)
theorem c_dirDef (s : DSchema) (name : Bs) (K) : Ct Tryz.prog 71 [.agg (encL .no (tSchema s)), .str name] K (.tup [.agg (encL .no (tDef (dirOf s.dirs builtD name))), .bool (dirOk s.dirs builtD name)]) K := by
  obtain ⟨s0, s1, s2⟩ := s
  dsimp only
  have hn1 := fun K => c_named s1 name K
  have hn2 := fun K => c_named builtD name K
  have hlb : builtD.length = 3 := rfl
  rw [hlb] at hn2
  refine ct_fn { n0 := 9, ex := [], tk := [12, 19, 20, 23, 29, 30] } Tryz.func71 rfl (by kernel_rfl) (by kernel_rfl) rfl ?_
  simp -implicitDefEqProofs [Tryz.f71, tSchema, encL, encT]
  refine callK_of (hn1 _) ?_
  rcases (by omega : defAt s1 name < 0 ∨ ¬ defAt s1 name < 0) with hn | hp
  · have e1 : dirOf s1 builtD name = defOf builtD name := by unfold dirOf; rw [if_pos hn]
    have e2 : dirOk s1 builtD name = decide (0 ≤ defAt builtD name) := by unfold dirOk; rw [decide_eq_false (by omega), Bool.false_or]
    rw [e1, e2]
    simp -implicitDefEqProofs [eq_false (show ¬ 0 ≤ defAt s1 name by omega), eq_true hn]
    refine callK_of (c_BuiltDirs _) ?_
    simp -implicitDefEqProofs
    refine callK_of (hn2 _) ?_
    rcases (by omega : defAt builtD name < 0 ∨ ¬ defAt builtD name < 0) with hn | hp
    · have e3 : defOf builtD name = zDef := by unfold defOf; rw [if_pos hn]
      rw [e3]
      simp -implicitDefEqProofs [eq_false (show ¬ 0 ≤ defAt builtD name by omega), eq_true hn, zDef_le]
    · obtain ⟨j, d, ej, hjl, hd, hde⟩ := defAt_get hp
      have ea := atDef (m := .no) hd
      have eL := encDefS_len (m := .no) (xs := builtD)
      rw [ej, hde]
      rw [hlb] at hjl eL
      generalize builtD = B at *
      obtain ⟨d0, d1, d2, d3, d4, d5, d6, d7, d8, d9, d10⟩ := d
      simp only [tDef, encL, encT] at ea
      simp -implicitDefEqProofs [hjl, ea, eL, (by omega : 0 ≤ (j : Int)), tDef, encL, encT]
      omega
  · obtain ⟨j, d, ej, hjl, hd, hde⟩ := defAt_get hp
    have ea := atDef (m := .no) hd
    have e1 : dirOf s1 builtD name = d := by unfold dirOf; rw [if_neg hp, hde]
    have e2 : dirOk s1 builtD name = true := by unfold dirOk; rw [decide_eq_true (by omega), Bool.true_or]
    rw [e1, e2, ej]
    obtain ⟨d0, d1, d2, d3, d4, d5, d6, d7, d8, d9, d10⟩ := d
    simp only [tDef, encL, encT] at ea
    simp -implicitDefEqProofs [hjl, ea, encDefS_len, (by omega : 0 ≤ (j : Int)), tDef, encL, encT]
theorem c_l17Dir (s : DSchema) (name : Bs) (K) : Ct Tryz.prog 101 [.agg (encL .no (tSchema s)), .str name] K (.tup [.agg (encL .no (tDef (dirOf s.dirs builtD name))), .bool (dirOk s.dirs builtD name)]) K := by
  obtain ⟨s0, s1, s2⟩ := s
  dsimp only
  have hlb : builtD.length = 3 := rfl
  generalize hr : dirOf s1 builtD name = r
  generalize hq : dirOk s1 builtD name = q
  refine ct_fn { n0 := 9, ex := [], tk := [34, 35, 52, 53] } Tryz.func101 rfl (by kernel_rfl) (by kernel_rfl) rfl ?_
  simp -implicitDefEqProofs [Tryz.f101, tSchema, encL, encT]
  obtain ⟨I, hI⟩ : ∃ I : Nat → St → Prop, ∀ m s, I m s ↔ ∃ i, i ≤ s1.length ∧ m = s1.length - i ∧ (60 < s1.length → i = 0) ∧ idxOf (fun d => decide (d.name = name)) (s1.drop i) i = idxOf (fun d => decide (d.name = name)) s1 0 ∧
    s = { env := [(0, .agg [.sl .no s0.length (encR .no (tDefS s0)), .sl .no s1.length (encR .no (tDefS s1)), .sl .no s2.length (encR .no (tRootS s2))]), (1, .str name), (2, .ptr 0 0 0), (4, .ptr 0 1 0), (5, .bool false), (6, .int .i64 i)],
          loc := [], K := [[.sl .no s0.length (encR .no (tDefS s0)), .sl .no s1.length (encR .no (tDefS s1)), .sl .no s2.length (encR .no (tRootS s2))], [.int .i64 0, .bool false, .str [], .str [], .sl .nil 0 [], .sl .nil 0 [], .sl .nil 0 [], .sl .nil 0 [], .sl .nil 0 [], .bool false, .sl .nil 0 []]] :: K } := ⟨_, fun _ _ => Iff.rfl⟩
  refine wC_loopI I s1.length ((hI _ _).2 ⟨0, by omega, rfl, fun _ => rfl, rfl, rfl⟩) (St.le_of (by simp) (by simp) rfl rfl) ?_
  intro m s hs
  obtain ⟨i, hi, rfl, hi0, hz, rfl⟩ := (hI _ _).1 hs
  have found : i < s1.length → s1.length ≤ 60 → ∀ x, s1[i]? = some x → x.name = name → r = x ∧ q = true := by
    intro hlt h60 x hx hxn
    have ed := idxOf_drop (p := fun d => decide (d.name = name)) hx i
    rw [hz, if_pos (by simp [hxn])] at ed
    have hda : defAt s1 name = i := by unfold defAt; rw [if_neg (by omega)]; exact ed
    obtain ⟨j, d, ej, hjl, hd, hde⟩ := defAt_get (xs := s1) (name := name) (by omega)
    have : j = i := by omega
    subst this
    rw [hx] at hd; cases hd
    exact ⟨by rw [← hr]; unfold dirOf; rw [if_neg (by omega), hde], by rw [← hq]; unfold dirOk; rw [decide_eq_true (by omega), Bool.true_or]⟩
  have rest : (60 < s1.length ∨ i = s1.length) → r = defOf builtD name ∧ q = decide (0 ≤ defAt builtD name) := by
    intro hc
    have hda : defAt s1 name < 0 := by
      unfold defAt
      split
      · decide
      · rcases hc with hc | hc
        · omega
        · rw [← hz, hc, List.drop_of_length_le (Nat.le_refl _)]; simp [idxOf]
    exact ⟨by rw [← hr]; unfold dirOf; rw [if_pos hda], by rw [← hq]; unfold dirOk; rw [decide_eq_false (by omega), Bool.false_or]⟩
  have tail : (60 < s1.length ∨ i = s1.length) → True := fun _ => trivial
  rcases (by omega : (i < s1.length ∧ s1.length ≤ 60) ∨ ((60 < s1.length ∨ i = s1.length))) with ⟨hlt, h60⟩ | hge
  · obtain ⟨x, hx⟩ : ∃ x, s1[i]? = some x := ⟨_, List.getElem?_eq_getElem hlt⟩
    have ea := atDef (m := .no) hx
    have ed := idxOf_drop (p := fun d => decide (d.name = name)) hx i
    have fd := found hlt h60 x hx
    obtain ⟨y0, y1, y2, y3, y4, y5, y6, y7, y8, y9, y10⟩ := x
    simp only [tDef, encL, encT] at ea
    simp -implicitDefEqProofs [hlt, ea, encDefS_len, (by omega : (s1.length : Int) ≤ 60)]
    refine fun hm => ⟨fun h => ?_, fun h => ?_⟩
    · obtain ⟨rfl, rfl⟩ := fd h
      simp [tDef, encL, encT]
    · simp (disch := omega) only [wrap64]
      refine ⟨s1.length - (i + 1), by omega, _, St.le_of (by simp) (by simp [St.trunc, look, mapV, mapC, killP]) rfl (by simp [St.trunc, mapC]), (hI _ _).2 ⟨i + 1, by omega, rfl, fun h => by omega, ?_, rfl⟩⟩
      rw [← hz, ed]; simp [h]
  · obtain ⟨rfl, rfl⟩ := rest hge
    have hc3 : i < s1.length → ¬ (s1.length : Int) ≤ 60 := by intro h; omega
    simp -implicitDefEqProofs
    refine fun _ _ => ⟨fun h1 h2 => absurd h2 (hc3 h1), fun _ => ?_⟩
    clear hI hs found rest tail
    refine callK_of (c_BuiltDirsS _) ?_
    simp -implicitDefEqProofs
    have h60 : builtD.length ≤ 60 := by decide
    generalize builtD = B at *
    obtain ⟨J, hJ⟩ : ∃ J : Nat → St → Prop, ∀ m s, J m s ↔ ∃ k, k ≤ 3 ∧ m = 3 - k ∧ idxOf (fun d => decide (d.name = name)) (B.drop k) k = idxOf (fun d => decide (d.name = name)) B 0 ∧
      s = { env := [(0, .agg [.sl .no s0.length (encR .no (tDefS s0)), .sl .no s1.length (encR .no (tDefS s1)), .sl .no s2.length (encR .no (tRootS s2))]), (1, .str name), (2, .ptr 0 0 0), (4, .ptr 0 1 0), (5, .bool false), (7, .sl (.of 110) 3 (encR .no (tDefS B))), (8, .int .i64 k)],
            loc := [], K := [[.sl .no s0.length (encR .no (tDefS s0)), .sl .no s1.length (encR .no (tDefS s1)), .sl .no s2.length (encR .no (tRootS s2))], [.int .i64 0, .bool false, .str [], .str [], .sl .nil 0 [], .sl .nil 0 [], .sl .nil 0 [], .sl .nil 0 [], .sl .nil 0 [], .bool false, .sl .nil 0 []]] :: K } := ⟨_, fun _ _ => Iff.rfl⟩
    refine wC_loopI J 3 ((hJ _ _).2 ⟨0, by omega, rfl, rfl, rfl⟩) (St.le_of (by simp) (by simp) rfl rfl) ?_
    intro m s hs
    obtain ⟨k, hk, rfl, hz2, rfl⟩ := (hJ _ _).1 hs
    have eL := encDefS_len (m := .no) (xs := B)
    rw [hlb] at eL
    rcases Nat.lt_or_ge k 3 with hlt | hge3
    · obtain ⟨x, hx⟩ : ∃ x, B[k]? = some x := ⟨_, List.getElem?_eq_getElem (by omega)⟩
      have ea := atDef (m := .no) hx
      have ed := idxOf_drop (p := fun d => decide (d.name = name)) hx k
      rw [hz2] at ed
      have fd : x.name = name → defOf B name = x ∧ 0 ≤ defAt B name := by
        intro hxn
        rw [if_pos (by simp [hxn])] at ed
        have hda : defAt B name = k := by unfold defAt; rw [if_neg (by omega)]; exact ed
        obtain ⟨j, d, ej, hjl, hd, hde⟩ := defAt_get (xs := B) (name := name) (by omega)
        have : j = k := by omega
        subst this
        rw [hx] at hd; cases hd
        exact ⟨hde, by omega⟩
      have w2 : IntKind.i64.wrap ((k : Int) + 1) = (k + 1 : Nat) := by rw [wrap64 (by omega) (by omega)]; rfl
      obtain ⟨y0, y1, y2, y3, y4, y5, y6, y7, y8, y9, y10⟩ := x
      simp only [tDef, encL, encT] at ea
      have hlt2 : (k : Int) < 3 := by omega
      simp -implicitDefEqProofs [hlt2, ea, eL, w2]
      refine fun _ => ⟨fun h => ?_, fun h => ?_⟩
      · obtain ⟨e1, e2⟩ := fd h
        rw [e1]
        simp [tDef, encL, encT, e2]
      · refine ⟨3 - (k + 1), by omega, _, St.le_of (by simp) (by simp [St.trunc, look, mapV, mapC, killP]) rfl (by simp [St.trunc, mapC]), (hJ _ _).2 ⟨k + 1, by omega, rfl, ?_, rfl⟩⟩
        rw [ed]; simp [h]
    · have e : k = 3 := by omega
      subst e
      have hda : defAt B name < 0 := by
        unfold defAt
        rw [if_neg (by omega), ← hz2, List.drop_of_length_le (by omega)]; simp [idxOf]
      have e3 : defOf B name = zDef := by unfold defOf; rw [if_pos hda]
      rw [e3, decide_eq_false (by omega)]
      simp -implicitDefEqProofs [zDef_le]
end Go.Proofs.YthagllbnkbahnaaGreat.Abs
/- Uses in arguments and in directives: both sides. No condition. -/
set_option linter.unusedVariables false
set_option linter.unusedSimpArgs false
namespace Go.Proofs.YthagllbnkbahnaaGreat.Abs
open Go
set_option maxHeartbeats 1000000
set_option maxRecDepth 100000
theorem usesX_some {ts : List DDef} {ins : List DInDef} {v : DValue} {n : Bs} : usesX ts ins v (some n) = if inOk ins n then usesV ts v (inOf ins n).ty (inOf ins n).has else freeU (varsV v) := rfl
theorem szArg_get {xs : List DArg} {i : Nat} {x : DArg} (h : xs[i]? = some x) : szL (tValue x.value) ≤ szR (tArgS xs) := by
  have h1 := szR_get (tArgS_get h)
  have h2 := szR_take_le (rs := tArgS xs) (i + 1)
  obtain ⟨n, v⟩ := x
  simp only [tArg, szL, szT, List.cons_append, List.nil_append] at h1 ⊢
  omega
theorem c_argUses (s : DSchema) (ins : List DInDef) (xs : List DArg) (K) (hs : xs.length + szR (tArgS xs) ≤ 1048576) :
    Ct Tryz.prog 31 [.agg (encL .no (tSchema s)), .sl .no ins.length (encR .no (tInDefS ins)), .sl .no xs.length (encR .no (tArgS xs))] K (.sl (.of 77) (argU s.types ins xs).length (encR .of (tUseS (argU s.types ins xs)))) K := by
  generalize hr : argU s.types ins xs = r
  have hc1 := fun v t h K => c_UsesOf s v t h K
  obtain ⟨s0, s1, s2⟩ := s
  simp only [usesOf, tSchema, encL_app, encL, encT, List.cons_append, List.nil_append, Md.ow_no, tDefS_len, tRootS_len] at hc1 hr
  refine ct_fn { n0 := 12, ex := [13, 14, 15], tk := [12, 23, 27, 35, 36, 37, 40, 41, 43] } Tryz.func31 rfl (by kernel_rfl) (by kernel_rfl) rfl ?_
  simp -implicitDefEqProofs [Tryz.f31, tSchema, encL, encT]
  intro hm0
  obtain ⟨I, hI⟩ : ∃ I : Nat → St → Prop, ∀ m s, I m s ↔ ∃ (i : Nat) (L : List DUse), i ≤ xs.length ∧ m = xs.length - i ∧ L = argU s0 ins (xs.take i) ∧
    s = { env := [(0, .agg [.sl .no s0.length (encR .no (tDefS s0)), .sl .no s1.length (encR .no (tDefS s1)), .sl .no s2.length (encR .no (tRootS s2))]), (1, .sl .no ins.length (encR .no (tInDefS ins))), (2, .sl .no xs.length (encR .no (tArgS xs))), (3, .ptr 0 0 0), (6, .sl .nil 0 []), (7, .sl (.of 77) L.length (encR .of (tUseS L))), (13, .sl .no xs.length (encR .no (tArgS xs))), (14, .int .i64 xs.length), (15, .int .i64 i)], loc := [],
          K := [[.sl .no s0.length (encR .no (tDefS s0)), .sl .no s1.length (encR .no (tDefS s1)), .sl .no s2.length (encR .no (tRootS s2))]] :: K } := ⟨_, fun _ _ => Iff.rfl⟩
  refine wC_loopI I xs.length ((hI _ _).2 ⟨0, [], by omega, rfl, by simp [argU], rfl⟩) (St.le_of (by simp) (by simp [tUseS, encR]) rfl rfl) ?_
  intro m s hm
  obtain ⟨i, L, hi, rfl, hL, rfl⟩ := (hI _ _).1 hm
  have hol := argU_take_len s0 ins xs i
  rw [← hL] at hol
  have hlc : (encR .of (tUseS L)).length = L.length * 5 := by rw [encUseS_len]
  rcases Nat.lt_or_ge i xs.length with hlt | hge
  · obtain ⟨x, hx⟩ : ∃ x, xs[i]? = some x := ⟨_, List.getElem?_eq_getElem hlt⟩
    have ea := atArg (m := .no) hx
    have es := szArg_get hx
    have hnx := argU_take (ts := s0) (ins := ins) hx
    rw [← hL, usesX_some] at hnx
    have hin := fun K => c_inNamed ins x.name K
    have hf := fun K => c_freeUses x.value K (by omega)
    have hul := usesX_len s0 ins x.value (some x.name)
    rw [usesX_some] at hul
    have wi : IntKind.i64.wrap ((i : Int) + 1) = (i + 1 : Nat) := by rw [wrap64 (by omega) (by omega)]; rfl
    cases hok : inOk ins x.name with
    | true =>
      rw [hok] at hnx hin hul
      simp only [if_true] at hnx hul
      have hc := fun K => hc1 x.value (inOf ins x.name).ty (inOf ins x.name).has K (by omega)
      generalize inOf ins x.name = q at *
      generalize usesV s0 x.value q.ty q.has = u at *
      have hns : encR .of (tUseS (L ++ u)) = encR .of (tUseS L) ++ encR .of (tUseS u) := by rw [tUseS_app, encR_app]
      have hlu : (encR .of (tUseS u)).length = u.length * 5 := by rw [encUseS_len]
      obtain ⟨xn, v0, v1, v2, v3⟩ := x
      obtain ⟨q0, q1, ⟨q2, q3⟩, q4, ⟨q5, q6, q7, q8⟩, q9⟩ := q
      simp only [tArg, tInDef, tType, tValue, encL_app, encL, encT, List.cons_append, List.nil_append, Md.ow_no, tStrS_len, tValueS_len, tDirS_len] at hc ea hin
      simp -implicitDefEqProofs [hlt, ea, encArgS_len]
      refine callK_of (hin _) ?_
      simp -implicitDefEqProofs
      refine callK_of (hc _) ?_
      simp -implicitDefEqProofs [wi, hlu]
      rw [← hns]
      refine ⟨by unfold maxLen; omega, by omega, ?_⟩
      exact ⟨xs.length - (i + 1), by omega, _, St.le_of (by simp) (by simp [St.trunc, look, mapV, mapC, killP]) rfl (by simp [St.trunc, mapC]), (hI _ _).2 ⟨i + 1, L ++ u, by omega, rfl, hnx.symm, rfl⟩⟩
    | false =>
      rw [hok] at hnx hin hul
      simp only [Bool.false_eq_true, if_false] at hnx hul
      generalize inOf ins x.name = q at *
      generalize freeU (varsV x.value) = u at *
      have hns : encR .of (tUseS (L ++ u)) = encR .of (tUseS L) ++ encR .of (tUseS u) := by rw [tUseS_app, encR_app]
      have hlu : (encR .of (tUseS u)).length = u.length * 5 := by rw [encUseS_len]
      obtain ⟨xn, v0, v1, v2, v3⟩ := x
      obtain ⟨q0, q1, ⟨q2, q3⟩, q4, ⟨q5, q6, q7, q8⟩, q9⟩ := q
      simp only [tArg, tInDef, tType, tValue, encL_app, encL, encT, List.cons_append, List.nil_append, Md.ow_no, tStrS_len, tValueS_len, tDirS_len] at hf ea hin
      simp -implicitDefEqProofs [hlt, ea, encArgS_len]
      refine callK_of (hin _) ?_
      simp -implicitDefEqProofs
      refine callK_of (hf _) ?_
      simp -implicitDefEqProofs [wi, hlu]
      rw [← hns]
      refine ⟨by unfold maxLen; omega, by omega, ?_⟩
      exact ⟨xs.length - (i + 1), by omega, _, St.le_of (by simp) (by simp [St.trunc, look, mapV, mapC, killP]) rfl (by simp [St.trunc, mapC]), (hI _ _).2 ⟨i + 1, L ++ u, by omega, rfl, hnx.symm, rfl⟩⟩
  · have e : i = xs.length := by omega
    subst e
    rw [List.take_of_length_le (Nat.le_refl _), hr] at hL
    subst hL
    simp -implicitDefEqProofs
theorem szDir_get {xs : List DDir} {i : Nat} {x : DDir} (h : xs[i]? = some x) : x.args.length + szR (tArgS x.args) ≤ szR (tDirS xs) := by
  have h1 := szR_get (tDirS_get h)
  have h2 := szR_take_le (rs := tDirS xs) (i + 1)
  obtain ⟨n, v⟩ := x
  simp only [tDir, szL, szT, tArgS_len] at h1 ⊢
  omega
theorem c_dirUses (s : DSchema) (xs : List DDir) (K) (hs : xs.length + szR (tDirS xs) ≤ 1048576) :
    Ct Tryz.prog 32 [.agg (encL .no (tSchema s)), .sl .no xs.length (encR .no (tDirS xs))] K (.sl (.of 77) (dirU s.types s.dirs builtD xs).length (encR .of (tUseS (dirU s.types s.dirs builtD xs)))) K := by
  generalize hr : dirU s.types s.dirs builtD xs = r
  have hc1 := fun ins al K => c_argUses s ins al K
  have hc2 := fun n K => c_dirDef s n K
  obtain ⟨s0, s1, s2⟩ := s
  simp only [tSchema, encL_app, encL, encT, List.cons_append, List.nil_append, Md.ow_no, tDefS_len, tRootS_len] at hc1 hc2 hr
  refine ct_fn { n0 := 10, ex := [11, 12, 13], tk := [10, 21, 24, 30, 31, 33] } Tryz.func32 rfl (by kernel_rfl) (by kernel_rfl) rfl ?_
  simp -implicitDefEqProofs [Tryz.f32, tSchema, encL, encT]
  intro hm0
  obtain ⟨I, hI⟩ : ∃ I : Nat → St → Prop, ∀ m s, I m s ↔ ∃ (i : Nat) (L : List DUse), i ≤ xs.length ∧ m = xs.length - i ∧ L = dirU s0 s1 builtD (xs.take i) ∧
    s = { env := [(0, .agg [.sl .no s0.length (encR .no (tDefS s0)), .sl .no s1.length (encR .no (tDefS s1)), .sl .no s2.length (encR .no (tRootS s2))]), (1, .sl .no xs.length (encR .no (tDirS xs))), (2, .ptr 0 0 0), (4, .sl .nil 0 []), (5, .sl (.of 77) L.length (encR .of (tUseS L))), (11, .sl .no xs.length (encR .no (tDirS xs))), (12, .int .i64 xs.length), (13, .int .i64 i)], loc := [],
          K := [[.sl .no s0.length (encR .no (tDefS s0)), .sl .no s1.length (encR .no (tDefS s1)), .sl .no s2.length (encR .no (tRootS s2))]] :: K } := ⟨_, fun _ _ => Iff.rfl⟩
  refine wC_loopI I xs.length ((hI _ _).2 ⟨0, [], by omega, rfl, by simp [dirU], rfl⟩) (St.le_of (by simp) (by simp [tUseS, encR]) rfl rfl) ?_
  intro m s hm
  obtain ⟨i, L, hi, rfl, hL, rfl⟩ := (hI _ _).1 hm
  have hol := dirU_take_len s0 s1 builtD xs i
  rw [← hL] at hol
  have hlc : (encR .of (tUseS L)).length = L.length * 5 := by rw [encUseS_len]
  rcases Nat.lt_or_ge i xs.length with hlt | hge
  · obtain ⟨x, hx⟩ : ∃ x, xs[i]? = some x := ⟨_, List.getElem?_eq_getElem hlt⟩
    have ea := atDir (m := .no) hx
    have es := szDir_get hx
    have hnx := dirU_take (ts := s0) (ds := s1) (bs := builtD) hx
    rw [← hL] at hnx
    have hin := fun K => hc2 x.name K
    have hc := fun K => hc1 (dirOf s1 builtD x.name).inputs x.args K (by omega)
    have hul := argU_len s0 (dirOf s1 builtD x.name).inputs x.args
    have wi : IntKind.i64.wrap ((i : Int) + 1) = (i + 1 : Nat) := by rw [wrap64 (by omega) (by omega)]; rfl
    generalize dirOf s1 builtD x.name = d at *
    generalize dirOk s1 builtD x.name = b at *
    generalize argU s0 d.inputs x.args = u at *
    have hns : encR .of (tUseS (L ++ u)) = encR .of (tUseS L) ++ encR .of (tUseS u) := by rw [tUseS_app, encR_app]
    have hlu : (encR .of (tUseS u)).length = u.length * 5 := by rw [encUseS_len]
    obtain ⟨x0, x1⟩ := x
    obtain ⟨d0, d1, d2, d3, d4, d5, d6, d7, d8, d9, d10⟩ := d
    dsimp only at hc es hul
    simp only [tDir, tDef, encL_app, encL, encT, List.cons_append, List.nil_append, Md.ow_no, tStrS_len, tValueS_len, tDirS_len, tArgS_len, tInDefS_len, tFieldDefS_len, tEnumDefS_len, tRootS_len] at hc ea hin
    simp -implicitDefEqProofs [hlt, ea, encDirS_len]
    refine callK_of (hin _) ?_
    simp -implicitDefEqProofs
    refine callK_of (hc _) ?_
    simp -implicitDefEqProofs [wi, hlu]
    rw [← hns]
    refine ⟨by unfold maxLen; omega, by omega, ?_⟩
    exact ⟨xs.length - (i + 1), by omega, _, St.le_of (by simp) (by simp [St.trunc, look, mapV, mapC, killP]) rfl (by simp [St.trunc, mapC]), (hI _ _).2 ⟨i + 1, L ++ u, by omega, rfl, hnx.symm, rfl⟩⟩
  · have e : i = xs.length := by omega
    subst e
    rw [List.take_of_length_le (Nat.le_refl _), hr] at hL
    subst hL
    simp -implicitDefEqProofs
end Go.Proofs.YthagllbnkbahnaaGreat.Abs
/- Uses in arguments and in directives: the reference's. No condition. -/
set_option linter.unusedVariables false
set_option linter.unusedSimpArgs false
namespace Go.Proofs.YthagllbnkbahnaaGreat.Abs
open Go
set_option maxHeartbeats 1000000
set_option maxRecDepth 100000
theorem c_l28Args (s : DSchema) (ins : List DInDef) (xs : List DArg) (out : List DUse) (K) (hs : xs.length + szR (tArgS xs) ≤ 1048576) (hb : out.length ≤ 40000000) :
    Ct Tryz.prog 59 [.agg (encL .no (tSchema s)), .sl .no ins.length (encR .no (tInDefS ins)), .sl .no xs.length (encR .no (tArgS xs)), .sl (.of 77) out.length (encR .of (tUseS out))] K (.sl (.of 77) (out ++ argU s.types ins xs).length (encR .of (tUseS (out ++ argU s.types ins xs)))) K := by
  generalize hr : out ++ argU s.types ins xs = r
  have hc1 := fun v t h out K h1 h2 => c_l28Uses_rec _ s v t h out K h1 h2 (Nat.lt_succ_self _)
  obtain ⟨s0, s1, s2⟩ := s
  simp only [tSchema, encL_app, encL, encT, List.cons_append, List.nil_append, Md.ow_no, tDefS_len, tRootS_len] at hc1 hr
  refine ct_fn { n0 := 11, ex := [], tk := [26, 34, 35, 52, 53, 54] } Tryz.func59 rfl (by kernel_rfl) (by kernel_rfl) rfl ?_
  simp -implicitDefEqProofs [Tryz.f59, tSchema, encL, encT]
  obtain ⟨I, hI⟩ : ∃ I : Nat → St → Prop, ∀ m s, I m s ↔ ∃ (i : Nat) (L : List DUse), i ≤ xs.length ∧ m = xs.length - i ∧ L = out ++ argU s0 ins (xs.take i) ∧
    s = { env := [(0, .agg [.sl .no s0.length (encR .no (tDefS s0)), .sl .no s1.length (encR .no (tDefS s1)), .sl .no s2.length (encR .no (tRootS s2))]), (1, .sl .no ins.length (encR .no (tInDefS ins))), (2, .sl .no xs.length (encR .no (tArgS xs))), (3, .sl (.of 77) L.length (encR .of (tUseS L))), (4, .ptr 0 0 0), (8, .sl .nil 0 []), (9, .int .i64 i)], loc := [],
          K := [[.sl .no s0.length (encR .no (tDefS s0)), .sl .no s1.length (encR .no (tDefS s1)), .sl .no s2.length (encR .no (tRootS s2))]] :: K } := ⟨_, fun _ _ => Iff.rfl⟩
  refine wC_loopI I xs.length ((hI _ _).2 ⟨0, out, by omega, rfl, by simp [argU], rfl⟩) (St.le_of (by simp) (by simp) rfl rfl) ?_
  intro m s hm
  obtain ⟨i, L, hi, rfl, hL, rfl⟩ := (hI _ _).1 hm
  have hol := argU_take_len s0 ins xs i
  have hLl : L.length = out.length + (argU s0 ins (xs.take i)).length := by rw [hL, List.length_append]
  rcases Nat.lt_or_ge i xs.length with hlt | hge
  · obtain ⟨x, hx⟩ : ∃ x, xs[i]? = some x := ⟨_, List.getElem?_eq_getElem hlt⟩
    have ea := atArg (m := .no) hx
    have es := szArg_get hx
    have hnx := argU_take (ts := s0) (ins := ins) hx
    rw [usesX_some] at hnx
    have hM := fun L K (h : L.length ≤ 100000000) => c_l28Free x.value L K (by omega) h
    have hcu := fun t h K => hc1 x.value t h L K (by omega) (by omega)
    have wi : IntKind.i64.wrap ((i : Int) + 1) = (i + 1 : Nat) := by rw [wrap64 (by omega) (by omega)]; rfl
    rcases Nat.lt_or_ge 100 ins.length with hg | hg
    · have hok : inOk ins x.name = false := by unfold inOk; rw [decide_eq_false (by omega : ¬ ins.length ≤ 100), Bool.and_false]
      have hg2 : ¬ (ins.length : Int) ≤ 100 := by omega
      rw [hok] at hnx
      simp only [Bool.false_eq_true, if_false] at hnx
      have hno : L ++ freeU (varsV x.value) = out ++ argU s0 ins (xs.take (i + 1)) := by rw [hnx, hL, List.append_assoc]
      have hc := fun K => hM L K (by omega)
      generalize L ++ freeU (varsV x.value) = M at *
      obtain ⟨xn, v0, v1, v2, v3⟩ := x
      simp only [tArg, tValue, encL_app, encL, encT, List.cons_append, List.nil_append, Md.ow_no, tStrS_len, tValueS_len] at hc ea
      simp -implicitDefEqProofs [hlt, ea, encArgS_len, hg2]
      intro hm1 hm2
      refine callK_of (hc _) ?_
      simp -implicitDefEqProofs [wi]
      exact ⟨xs.length - (i + 1), by omega, _, St.le_of (by simp) (by simp [St.trunc, look, mapV, mapC, killP]) rfl (by simp [St.trunc, mapC]), (hI _ _).2 ⟨i + 1, M, by omega, rfl, hno, rfl⟩⟩
    · have hg2 : (ins.length : Int) ≤ 100 := by omega
      rcases (by omega : inAt ins x.name < 0 ∨ 0 ≤ inAt ins x.name) with hneg | hpos2
      · have hok : inOk ins x.name = false := by unfold inOk; rw [decide_eq_false (by omega : ¬ 0 ≤ inAt ins x.name), Bool.false_and]
        rw [hok] at hnx
        simp only [Bool.false_eq_true, if_false] at hnx
        have hno : L ++ freeU (varsV x.value) = out ++ argU s0 ins (xs.take (i + 1)) := by rw [hnx, hL, List.append_assoc]
        have hc := fun K => hM L K (by omega)
        generalize L ++ freeU (varsV x.value) = M at *
        have hia := fun K => c_InAtS ins x.name K
        obtain ⟨xn, v0, v1, v2, v3⟩ := x
        dsimp only at hia hneg
        simp only [tArg, tValue, encL_app, encL, encT, List.cons_append, List.nil_append, Md.ow_no, tStrS_len, tValueS_len] at hc ea
        simp -implicitDefEqProofs [hlt, ea, encArgS_len, hg2]
        intro hm1 hm2
        refine callK_of (hia _) ?_
        simp -implicitDefEqProofs [eq_true hneg, eq_false (show ¬ 0 ≤ inAt ins xn by omega), hlt, ea, encArgS_len]
        refine callK_of (hc _) ?_
        simp -implicitDefEqProofs [wi]
        exact ⟨xs.length - (i + 1), by omega, _, St.le_of (by simp) (by simp [St.trunc, look, mapV, mapC, killP]) rfl (by simp [St.trunc, mapC]), (hI _ _).2 ⟨i + 1, M, by omega, rfl, hno, rfl⟩⟩
      · obtain ⟨p, q, ep, hpl, hq⟩ := inAt_get hpos2
        have hok : inOk ins x.name = true := by unfold inOk; rw [decide_eq_true hpos2, decide_eq_true hg]; rfl
        have eq : inOf ins x.name = q := by unfold inOf; rw [if_neg (by omega), ep, Int.toNat_natCast, hq]; rfl
        rw [hok, eq] at hnx
        simp only [if_true] at hnx
        have hc := fun K => hcu q.ty q.has K
        have hno : L ++ usesV s0 x.value q.ty q.has = out ++ argU s0 ins (xs.take (i + 1)) := by rw [hnx, hL, List.append_assoc]
        generalize L ++ usesV s0 x.value q.ty q.has = M at *
        have eq2 := atInDef (m := .no) hq
        have hia := fun K => c_InAtS ins x.name K
        rw [ep] at hia
        obtain ⟨xn, v0, v1, v2, v3⟩ := x
        obtain ⟨q0, q1, ⟨q2, q3⟩, q4, ⟨q5, q6, q7, q8⟩, q9⟩ := q
        simp only [tArg, tInDef, tType, tValue, encL_app, encL, encT, List.cons_append, List.nil_append, Md.ow_no, tStrS_len, tValueS_len, tDirS_len] at hc ea eq2
        simp -implicitDefEqProofs [hlt, ea, encArgS_len, hg2]
        intro hm1 hm2
        refine callK_of (hia _) ?_
        simp -implicitDefEqProofs [(by omega : ¬ (p : Int) < 0), (by omega : 0 ≤ (p : Int)), hlt, ea, encArgS_len]
        refine ⟨fun h => absurd h (by omega), ?_⟩
        refine wRun_draw true rfl (by decide +kernel) ?_
        simp -implicitDefEqProofs [hlt, ea, encArgS_len, hpl, eq2, encInDefS_len]
        refine callK_of (hc _) ?_
        simp -implicitDefEqProofs [wi]
        exact ⟨xs.length - (i + 1), by omega, _, St.le_of (by simp) (by simp [St.trunc, look, mapV, mapC, killP]) rfl (by simp [St.trunc, mapC]), (hI _ _).2 ⟨i + 1, M, by omega, rfl, hno, rfl⟩⟩
  · have e : i = xs.length := by omega
    subst e
    rw [List.take_of_length_le (Nat.le_refl _), hr] at hL
    subst hL
    simp -implicitDefEqProofs
theorem c_l28Dirs (s : DSchema) (xs : List DDir) (out : List DUse) (K) (hs : xs.length + szR (tDirS xs) ≤ 1048576) (hb : out.length ≤ 30000000) :
    Ct Tryz.prog 60 [.agg (encL .no (tSchema s)), .sl .no xs.length (encR .no (tDirS xs)), .sl (.of 77) out.length (encR .of (tUseS out))] K (.sl (.of 77) (out ++ dirU s.types s.dirs builtD xs).length (encR .of (tUseS (out ++ dirU s.types s.dirs builtD xs)))) K := by
  generalize hr : out ++ dirU s.types s.dirs builtD xs = r
  have hc1 := fun ins al out K => c_l28Args s ins al out K
  have hc2 := fun n K => c_l17Dir s n K
  obtain ⟨s0, s1, s2⟩ := s
  simp only [tSchema, encL_app, encL, encT, List.cons_append, List.nil_append, Md.ow_no, tDefS_len, tRootS_len] at hc1 hc2 hr
  refine ct_fn { n0 := 10, ex := [], tk := [34, 35, 36] } Tryz.func60 rfl (by kernel_rfl) (by kernel_rfl) rfl ?_
  simp -implicitDefEqProofs [Tryz.f60, tSchema, encL, encT]
  obtain ⟨I, hI⟩ : ∃ I : Nat → St → Prop, ∀ m s, I m s ↔ ∃ (i : Nat) (L : List DUse), i ≤ xs.length ∧ m = xs.length - i ∧ L = out ++ dirU s0 s1 builtD (xs.take i) ∧
    s = { env := [(0, .agg [.sl .no s0.length (encR .no (tDefS s0)), .sl .no s1.length (encR .no (tDefS s1)), .sl .no s2.length (encR .no (tRootS s2))]), (1, .sl .no xs.length (encR .no (tDirS xs))), (2, .sl (.of 77) L.length (encR .of (tUseS L))), (3, .ptr 0 0 0), (6, .sl .nil 0 []), (7, .int .i64 i)], loc := [],
          K := [[.sl .no s0.length (encR .no (tDefS s0)), .sl .no s1.length (encR .no (tDefS s1)), .sl .no s2.length (encR .no (tRootS s2))]] :: K } := ⟨_, fun _ _ => Iff.rfl⟩
  refine wC_loopI I xs.length ((hI _ _).2 ⟨0, out, by omega, rfl, by simp [dirU], rfl⟩) (St.le_of (by simp) (by simp) rfl rfl) ?_
  intro m s hm
  obtain ⟨i, L, hi, rfl, hL, rfl⟩ := (hI _ _).1 hm
  have hol := dirU_take_len s0 s1 builtD xs i
  have hLl : L.length = out.length + (dirU s0 s1 builtD (xs.take i)).length := by rw [hL, List.length_append]
  rcases Nat.lt_or_ge i xs.length with hlt | hge
  · obtain ⟨x, hx⟩ : ∃ x, xs[i]? = some x := ⟨_, List.getElem?_eq_getElem hlt⟩
    have ea := atDir (m := .no) hx
    have es := szDir_get hx
    have hnx := dirU_take (ts := s0) (ds := s1) (bs := builtD) hx
    have hin := fun K => hc2 x.name K
    have hc := fun K => hc1 (dirOf s1 builtD x.name).inputs x.args L K (by omega) (by omega)
    have wi : IntKind.i64.wrap ((i : Int) + 1) = (i + 1 : Nat) := by rw [wrap64 (by omega) (by omega)]; rfl
    have hno : L ++ argU s0 (dirOf s1 builtD x.name).inputs x.args = out ++ dirU s0 s1 builtD (xs.take (i + 1)) := by rw [hnx, hL, List.append_assoc]
    generalize dirOf s1 builtD x.name = d at *
    generalize dirOk s1 builtD x.name = b at *
    generalize L ++ argU s0 d.inputs x.args = M at *
    obtain ⟨x0, x1⟩ := x
    obtain ⟨d0, d1, d2, d3, d4, d5, d6, d7, d8, d9, d10⟩ := d
    dsimp only at hc es
    simp only [tDir, tDef, encL_app, encL, encT, List.cons_append, List.nil_append, Md.ow_no, tStrS_len, tValueS_len, tDirS_len, tArgS_len, tInDefS_len, tFieldDefS_len, tEnumDefS_len, tRootS_len] at hc ea hin
    simp -implicitDefEqProofs [hlt, ea, encDirS_len]
    intro hm1
    refine wRun_drawQ [(23, .tup [.agg [.int .i64 d0, .bool d1, .str d2, .str d3, .sl .no d4.length (encR .no (tStrS d4)), .sl .no d5.length (encR .no (tFieldDefS d5)), .sl .no d6.length (encR .no (tInDefS d6)), .sl .no d7.length (encR .no (tEnumDefS d7)), .sl .no d8.length (encR .no (tRootS d8)), .bool d9, .sl .no d10.length (encR .no (tDirS d10))], .bool b])] [23] rfl (by decide +kernel) ?_
    simp -implicitDefEqProofs [hlt, ea, encDirS_len]
    refine quietK_of hin ?_
    refine wRun_draw true rfl (by decide +kernel) ?_
    simp -implicitDefEqProofs [hlt, ea, encDirS_len]
    refine callK_of (hc _) ?_
    simp -implicitDefEqProofs [wi]
    exact ⟨xs.length - (i + 1), by omega, _, St.le_of (by simp) (by simp [St.trunc, look, mapV, mapC, killP]) rfl (by simp [St.trunc, mapC]), (hI _ _).2 ⟨i + 1, M, by omega, rfl, hno, rfl⟩⟩
  · have e : i = xs.length := by omega
    subst e
    rw [List.take_of_length_le (Nat.le_refl _), hr] at hL
    subst hL
    simp -implicitDefEqProofs
end Go.Proofs.YthagllbnkbahnaaGreat.Abs
/- UsesIn: both sides. No condition. -/
set_option linter.unusedVariables false
set_option linter.unusedSimpArgs false
namespace Go.Proofs.YthagllbnkbahnaaGreat.Abs
open Go
set_option maxHeartbeats 2000000
set_option maxRecDepth 100000
def usesIn (s : DSchema) (owner : Bs) (xs : List DSel) : List DUse := if tooMany xs then [] else plcU s.types s.dirs builtD (plcS s.types owner xs)
theorem many_cnt {xs : List DSel} (h : tooMany xs = false) : cntS xs ≤ 120 := by
  rw [tooMany_cl] at h
  have h3 := (clS_ok xs 120).2.1
  simp only [decide_eq_false_iff_not] at h
  omega
theorem c_UsesIn (s : DSchema) (owner : Bs) (xs : List DSel) (K) (hs : xs.length + szR (tSelS xs) ≤ 1048576) :
    Ct Tryz.prog 10 [.agg (encL .no (tSchema s)), .str owner, .sl .no xs.length (encR .no (tSelS xs))] K (.sl (.of 77) (usesIn s owner xs).length (encR .of (tUseS (usesIn s owner xs)))) K := by
  have hP0 : ∃ P : List DPlace, P = (if tooMany xs then [] else plcS s.types owner xs) ∧ P.length ≤ 120 ∧ (∀ p ∈ P, 1 + szL (tSel p.sel) ≤ xs.length + szR (tSelS xs)) ∧ plcU s.types s.dirs builtD P = usesIn s owner xs ∧ (∀ i, (plcU s.types s.dirs builtD (P.take i)).length ≤ 1048576) := by
    refine ⟨_, rfl, ?_⟩
    unfold usesIn
    cases h : tooMany xs with
    | true => simp [plcU]
    | false =>
      simp only [Bool.false_eq_true, if_false]
      exact ⟨by rw [plcS_length]; exact many_cnt h, plc_sz _ _ xs owner (Nat.lt_succ_self _), by first | trivial | rfl, fun i => by have := plcU_take_len s.types s.dirs builtD xs owner i; omega⟩
  obtain ⟨P, eP, hPl, hPs, hPu, hPt⟩ := hP0
  have hp := fun K => ct_freeze (c_PlacesOf s owner xs K hs)
  rw [← eP] at hp
  have hc1 := fun ins al K => c_argUses s ins al K
  have hc2 := fun ds K => c_dirUses s ds K
  have hc3 := fun n f K => c_fieldDef s n f K
  rw [← hPu]
  clear eP hPu
  generalize hr : plcU s.types s.dirs builtD P = r
  obtain ⟨s0, s1, s2⟩ := s
  simp only [tSchema, encL_app, encL, encT, List.cons_append, List.nil_append, Md.ow_no, tDefS_len, tRootS_len] at hp hc1 hc2 hc3 hr hPt
  refine ct_fn { n0 := 12, ex := [16, 17, 18], tk := [12, 29, 32, 39, 40, 41, 46, 47, 49] } Tryz.func10 rfl (by kernel_rfl) (by kernel_rfl) rfl ?_
  simp -implicitDefEqProofs [Tryz.f10, tSchema, encL, encT]
  refine callK_of (hp _) ?_
  simp -implicitDefEqProofs
  intro hm0
  obtain ⟨I, hI⟩ : ∃ I : Nat → St → Prop, ∀ m s, I m s ↔ ∃ (i : Nat) (L : List DUse), i ≤ P.length ∧ m = P.length - i ∧ L = plcU s0 s1 builtD (P.take i) ∧
    s = { env := [(0, .agg [.sl .no s0.length (encR .no (tDefS s0)), .sl .no s1.length (encR .no (tDefS s1)), .sl .no s2.length (encR .no (tRootS s2))]), (1, .str owner), (2, .sl .no xs.length (encR .no (tSelS xs))), (3, .ptr 0 0 0), (6, .sl .nil 0 []), (7, .sl (.of 77) L.length (encR .of (tUseS L))), (16, .sl (.of 65) P.length (encR .no (tPlaceS P))), (17, .int .i64 P.length), (18, .int .i64 i)], loc := [],
          K := [[.sl .no s0.length (encR .no (tDefS s0)), .sl .no s1.length (encR .no (tDefS s1)), .sl .no s2.length (encR .no (tRootS s2))]] :: K } := ⟨_, fun _ _ => Iff.rfl⟩
  refine wC_loopI I P.length ((hI _ _).2 ⟨0, [], by omega, rfl, by simp [plcU], rfl⟩) (St.le_of (by simp) (by simp [tUseS, encR]) rfl rfl) ?_
  intro m s hm
  obtain ⟨i, L, hi, rfl, hL, rfl⟩ := (hI _ _).1 hm
  have hol := hPt i
  rw [← hL] at hol
  have hlc : (encR .of (tUseS L)).length = L.length * 5 := by rw [encUseS_len]
  rcases Nat.lt_or_ge i P.length with hlt | hge
  · obtain ⟨x, hx⟩ : ∃ x, P[i]? = some x := ⟨_, List.getElem?_eq_getElem hlt⟩
    have ea := atPlace (m := .no) hx
    have hsx := hPs x (List.mem_of_getElem? hx)
    have hnx := plcU_take (ts := s0) (ds := s1) (bs := builtD) hx
    rw [← hL] at hnx
    obtain ⟨o, k, a, n, on_, args, dirs, sels⟩ := x
    simp only [tSel, szL, szT, tArgS_len, tDirS_len, tSelS_len] at hsx
    simp only [plcU1] at hnx
    have hin := fun K => hc3 o n K
    have hca := fun K => hc1 (fldDef s0 o n).args args K (by omega)
    have hcd := fun K => hc2 dirs K (by omega)
    have hul := argU_len s0 (fldDef s0 o n).args args
    have hvl := dirU_len s0 s1 builtD dirs
    have wi : IntKind.i64.wrap ((i : Int) + 1) = (i + 1 : Nat) := by rw [wrap64 (by omega) (by omega)]; rfl
    generalize fldDef s0 o n = d at *
    generalize fldOk s0 o n = b at *
    generalize argU s0 d.args args = u at *
    generalize dirU s0 s1 builtD dirs = v at *
    have hns : encR .of (tUseS (L ++ u)) = encR .of (tUseS L) ++ encR .of (tUseS u) := by rw [tUseS_app, encR_app]
    have hnv : encR .of (tUseS (L ++ u ++ v)) = encR .of (tUseS (L ++ u)) ++ encR .of (tUseS v) := by rw [tUseS_app (a := L ++ u), encR_app]
    have hlu : (encR .of (tUseS u)).length = u.length * 5 := by rw [encUseS_len]
    have hlv : (encR .of (tUseS v)).length = v.length * 5 := by rw [encUseS_len]
    have hnn : L.length + u.length + v.length = (L ++ u ++ v).length := by simp only [List.length_append]
    obtain ⟨d0, d1, d2, ⟨d3, d4⟩, d5⟩ := d
    dsimp only at hca
    simp only [tPlace, tSel, tFieldDef, tType, encL_app, encL, encT, List.cons_append, List.nil_append, Md.ow_no, tSelS_len, tDirS_len, tArgS_len, tInDefS_len] at hca hcd ea hin
    simp -implicitDefEqProofs [hlt, ea, encPlaceS_len]
    refine callK_of (hin _) ?_
    simp -implicitDefEqProofs
    refine callK_of (hca _) ?_
    simp -implicitDefEqProofs [hlu]
    rw [← hns]
    refine ⟨by unfold maxLen; omega, by omega, ?_⟩
    refine callK_of (hcd _) ?_
    simp -implicitDefEqProofs [hlv, wi]
    rw [← hnv, hnn]
    refine ⟨by rw [← hnn]; unfold maxLen; omega, by rw [← hnn]; omega, ?_⟩
    exact ⟨P.length - (i + 1), by omega, _, St.le_of (by simp) (by simp [St.trunc, look, mapV, mapC, killP]) rfl (by simp [St.trunc, mapC]), (hI _ _).2 ⟨i + 1, L ++ u ++ v, by omega, rfl, by rw [hnx, List.append_assoc], rfl⟩⟩
  · have e : i = P.length := by omega
    subst e
    rw [List.take_of_length_le (Nat.le_refl _), hr] at hL
    subst hL
    simp -implicitDefEqProofs
theorem c_l28In (s : DSchema) (owner : Bs) (xs : List DSel) (out : List DUse) (K) (hs : xs.length + szR (tSelS xs) ≤ 1048576) (hb : out.length ≤ 20000000) :
    Ct Tryz.prog 26 [.agg (encL .no (tSchema s)), .str owner, .sl .no xs.length (encR .no (tSelS xs)), .sl (.of 77) out.length (encR .of (tUseS out))] K (.sl (.of 77) (out ++ usesIn s owner xs).length (encR .of (tUseS (out ++ usesIn s owner xs)))) K := by
  unfold usesIn
  have hmany := fun K => c_l25Many xs K hs
  have hp := fun K h => c_l25Places s owner xs [] K h
  simp only [List.nil_append, List.length_nil, tPlaceS, encR] at hp
  have hcnt := many_cnt (xs := xs)
  have hPl : (plcS s.types owner xs).length = cntS xs := plcS_length _ _ _
  have hPs := plc_sz s.types _ xs owner (Nat.lt_succ_self _)
  have hPt := fun i => plcU_take_len s.types s.dirs builtD xs owner i
  have hc1 := fun ins al out K => c_l28Args s ins al out K
  have hc2 := fun ds out K => c_l28Dirs s ds out K
  have hc3 := fun n f K => c_l18Field s n f K
  obtain ⟨s0, s1, s2⟩ := s
  dsimp only at hPl hPs hPt hp ⊢
  simp only [tSchema, encL_app, encL, encT, List.cons_append, List.nil_append, Md.ow_no, tDefS_len, tRootS_len] at hp hc1 hc2 hc3
  generalize plcS s0 owner xs = P at *
  generalize hr : out ++ (if tooMany xs = true then [] else plcU s0 s1 builtD P) = r
  refine ct_fn { n0 := 14, ex := [], tk := [15, 16, 20, 21, 50, 51, 55, 56, 57] } Tryz.func26 rfl (by kernel_rfl) (by kernel_rfl) rfl ?_
  simp -implicitDefEqProofs [Tryz.f26, tSchema, encL, encT]
  refine callK_of (hmany _) ?_
  simp -implicitDefEqProofs
  cases htm : tooMany xs with
  | true =>
    rw [htm, if_pos rfl, List.append_nil] at hr
    subst hr
    simp
  | false =>
    rw [htm, if_neg (by simp)] at hr
    have hcn := hcnt htm
    simp -implicitDefEqProofs
    refine callK_of (hp _ (by omega)) ?_
    simp -implicitDefEqProofs
    obtain ⟨I, hI⟩ : ∃ I : Nat → St → Prop, ∀ m s, I m s ↔ ∃ (i : Nat) (L : List DUse), i ≤ P.length ∧ m = P.length - i ∧ L = out ++ plcU s0 s1 builtD (P.take i) ∧
      s = { env := [(0, .agg [.sl .no s0.length (encR .no (tDefS s0)), .sl .no s1.length (encR .no (tDefS s1)), .sl .no s2.length (encR .no (tRootS s2))]), (1, .str owner), (2, .sl .no xs.length (encR .no (tSelS xs))), (3, .sl (.of 77) L.length (encR .of (tUseS L))), (4, .ptr 0 0 0), (8, .sl .nil 0 []), (9, .sl (.of 65) P.length (encR .no (tPlaceS P))), (10, .int .i64 i)], loc := [],
            K := [[.sl .no s0.length (encR .no (tDefS s0)), .sl .no s1.length (encR .no (tDefS s1)), .sl .no s2.length (encR .no (tRootS s2))]] :: K } := ⟨_, fun _ _ => Iff.rfl⟩
    refine wC_loopI I P.length ((hI _ _).2 ⟨0, out, by omega, rfl, by simp [plcU], rfl⟩) (St.le_of (by simp) (by simp) rfl rfl) ?_
    intro m s hm
    obtain ⟨i, L, hi, rfl, hL, rfl⟩ := (hI _ _).1 hm
    have hol := hPt i
    have hLl : L.length = out.length + (plcU s0 s1 builtD (P.take i)).length := by rw [hL, List.length_append]
    rcases Nat.lt_or_ge i P.length with hlt | hge
    · obtain ⟨x, hx⟩ : ∃ x, P[i]? = some x := ⟨_, List.getElem?_eq_getElem hlt⟩
      have ea := atPlace (m := .no) hx
      have hsx := hPs x (List.mem_of_getElem? hx)
      have hnx := plcU_take (ts := s0) (ds := s1) (bs := builtD) hx
      obtain ⟨o, k, a, n, on_, args, dirs, sels⟩ := x
      simp only [tSel, szL, szT, tArgS_len, tDirS_len, tSelS_len] at hsx
      simp only [plcU1] at hnx
      have hin := fun K => hc3 o n K
      have hul := argU_len s0 (fldDef s0 o n).args args
      have hca := fun K => hc1 (fldDef s0 o n).args args L K (by omega) (by omega)
      have hcd := fun K => hc2 dirs (L ++ argU s0 (fldDef s0 o n).args args) K (by omega) (by rw [List.length_append]; omega)
      have wi : IntKind.i64.wrap ((i : Int) + 1) = (i + 1 : Nat) := by rw [wrap64 (by omega) (by omega)]; rfl
      have hno : L ++ argU s0 (fldDef s0 o n).args args ++ dirU s0 s1 builtD dirs = out ++ plcU s0 s1 builtD (P.take (i + 1)) := by rw [hnx, hL]; simp only [List.append_assoc]
      generalize fldDef s0 o n = d at *
      generalize fldOk s0 o n = b at *
      generalize L ++ argU s0 d.args args = M at *
      generalize M ++ dirU s0 s1 builtD dirs = M2 at *
      obtain ⟨d0, d1, d2, ⟨d3, d4⟩, d5⟩ := d
      dsimp only at hca
      simp only [tPlace, tSel, tFieldDef, tType, encL_app, encL, encT, List.cons_append, List.nil_append, Md.ow_no, tSelS_len, tDirS_len, tArgS_len, tInDefS_len] at hca hcd ea hin
      simp -implicitDefEqProofs [hlt, ea, encPlaceS_len]
      intro hm1
      refine wRun_drawQ [(42, .tup [.agg [.str d0, .str d1, .sl .no d2.length (encR .no (tInDefS d2)), .str d3, .str d4, .sl .no d5.length (encR .no (tDirS d5))], .bool b])] [42] rfl (by decide +kernel) ?_
      simp -implicitDefEqProofs [hlt, ea, encPlaceS_len]
      refine quietK_of hin ?_
      refine callK_of (hca _) ?_
      simp -implicitDefEqProofs
      refine callK_of (hcd _) ?_
      simp -implicitDefEqProofs [wi]
      exact ⟨P.length - (i + 1), by omega, _, St.le_of (by simp) (by simp [St.trunc, look, mapV, mapC, killP]) rfl (by simp [St.trunc, mapC]), (hI _ _).2 ⟨i + 1, M2, by omega, rfl, hno, rfl⟩⟩
    · have e : i = P.length := by omega
      subst e
      rw [List.take_of_length_le (Nat.le_refl _), hr] at hL
      subst hL
      simp -implicitDefEqProofs
theorem c_UsesInS (s : DSchema) (owner : Bs) (xs : List DSel) (K) (hs : xs.length + szR (tSelS xs) ≤ 1048576) :
    Ct Tryz.prog 7 [.agg (encL .no (tSchema s)), .str owner, .sl .no xs.length (encR .no (tSelS xs))] K (.sl (.of 77) (usesIn s owner xs).length (encR .of (tUseS (usesIn s owner xs)))) K := by
  have hc := fun K => c_l28In s owner xs [] K hs (by simp)
  simp only [List.nil_append, List.length_nil, tUseS, encR] at hc
  generalize usesIn s owner xs = r at *
  obtain ⟨s0, s1, s2⟩ := s
  simp only [tSchema, encL_app, encL, encT, List.cons_append, List.nil_append, Md.ow_no, tDefS_len, tRootS_len] at hc
  refine ct_fn { n0 := 7, ex := [], tk := [10, 11] } Tryz.func7 rfl (by kernel_rfl) (by kernel_rfl) rfl ?_
  simp -implicitDefEqProofs [Tryz.f7, tSchema, encL, encT]
  refine callK_of (hc _) ?_
  simp -implicitDefEqProofs
theorem bnd_UsesIn (s : DSchema) (owner : Bs) (xs : List DSel) (hs : xs.length + szR (tSelS xs) ≤ 1048576) : cnR (tUseS (usesIn s owner xs)) ≤ 1000000000 := by
  rw [cnUse]
  unfold usesIn
  split
  · simp
  · have := plcU_plc_len s.types s.dirs builtD _ xs owner (Nat.lt_succ_self _)
    omega
end Go.Proofs.YthagllbnkbahnaaGreat.Abs
