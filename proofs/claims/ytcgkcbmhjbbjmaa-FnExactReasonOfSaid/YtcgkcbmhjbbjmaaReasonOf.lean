/- ReasonOf. No condition. -/
import Derived.Test.YtcgkcbmhjbbjmaaFam
import Derived.Test.YtcgkcbmhjbbjmaaLib
set_option linter.unusedVariables false
set_option linter.unusedSimpArgs false
namespace Go.Proofs.Ytcgkcbmhjbbjmaa.Abs
open Go
set_option maxHeartbeats 1000000
set_option maxRecDepth 100000
def wDep : Bs := [100, 101, 112, 114, 101, 99, 97, 116, 101, 100]
def wReason : Bs := [114, 101, 97, 115, 111, 110]
def wNoLonger : Bs := [78, 111, 32, 108, 111, 110, 103, 101, 114, 32, 115, 117, 112, 112, 111, 114, 116, 101, 100]
def reasonArg : List DArg → Bs
  | [] => [78, 111, 32, 108, 111, 110, 103, 101, 114, 32, 115, 117, 112, 112, 111, 114, 116, 101, 100]
  | a :: l => if a.name = [114, 101, 97, 115, 111, 110] ∧ a.value.kind = 4 then a.value.text else reasonArg l
def reasonOf : List DDir → Bs × Bool
  | [] => ([], false)
  | d :: ds => if d.name = [100, 101, 112, 114, 101, 99, 97, 116, 101, 100] then (reasonArg d.args, true) else reasonOf ds
theorem reasonArg_drop {xs : List DArg} {i : Nat} {x : DArg} (h : xs[i]? = some x) : reasonArg (xs.drop i) = if x.name = [114, 101, 97, 115, 111, 110] ∧ x.value.kind = 4 then x.value.text else reasonArg (xs.drop (i + 1)) := by
  obtain ⟨hlt, rfl⟩ := List.getElem?_eq_some_iff.1 h
  rw [List.drop_eq_getElem_cons hlt]; rfl
theorem reasonOf_drop {xs : List DDir} {i : Nat} {x : DDir} (h : xs[i]? = some x) : reasonOf (xs.drop i) = if x.name = [100, 101, 112, 114, 101, 99, 97, 116, 101, 100] then (reasonArg x.args, true) else reasonOf (xs.drop (i + 1)) := by
  obtain ⟨hlt, rfl⟩ := List.getElem?_eq_some_iff.1 h
  rw [List.drop_eq_getElem_cons hlt]; rfl
theorem c_ReasonOf (xs : List DDir) (K) : Ct Try.prog 25 [.sl .no xs.length (encR .no (tDirS xs))] K (.tup [.str (reasonOf xs).1, .bool (reasonOf xs).2]) K := by
  refine ct_fn { n0 := 8, ex := [8, 9, 10, 18, 19, 20], tk := [35] } Try.func25 rfl (by kernel_rfl) (by kernel_rfl) rfl ?_
  simp -implicitDefEqProofs [Try.f25]
  intro h1
  obtain ⟨I, hI⟩ : ∃ I : Nat → St → Prop, ∀ m s, I m s ↔ ∃ i, i ≤ xs.length ∧ m = xs.length - i ∧ reasonOf (xs.drop i) = reasonOf xs ∧
    s = { env := [(0, .sl .no xs.length (encR .no (tDirS xs))), (2, .str []), (3, .bool false), (8, .sl .no xs.length (encR .no (tDirS xs))), (9, .int .i64 xs.length), (10, .int .i64 i)], loc := [], K := [] :: K } := ⟨_, fun _ _ => Iff.rfl⟩
  refine wC_loopI I xs.length ((hI _ _).2 ⟨0, by omega, rfl, rfl, rfl⟩) (St.le_of (by simp) (by simp) rfl rfl) ?_
  intro m s hs
  obtain ⟨i, hi, rfl, hz, rfl⟩ := (hI _ _).1 hs
  rcases Nat.lt_or_ge i xs.length with hlt | hge
  · obtain ⟨x, hx⟩ : ∃ x, xs[i]? = some x := ⟨_, List.getElem?_eq_getElem hlt⟩
    have ea := atDir (m := .no) hx
    have ed := reasonOf_drop hx
    obtain ⟨x0, ys⟩ := x
    simp only [tDir, encL, encT] at ea
    simp -implicitDefEqProofs [hlt, ea, encDirS_len]
    refine ⟨fun h => ?_, fun h => ?_⟩
    · unfold maxLen at *
      simp (disch := omega) only [wrap64]
      refine ⟨xs.length - (i + 1), by omega, _, St.le_of (by simp) (by simp [St.trunc, look, mapV, mapC, killP]) rfl (by simp [St.trunc, mapC]), (hI _ _).2 ⟨i + 1, by omega, rfl, ?_, rfl⟩⟩
      rw [← hz, ed]; simp [h]
    · intro h2
      have hr : reasonOf xs = (reasonArg ys, true) := by rw [← hz, ed]; simp [h]
      rw [hr]
      obtain ⟨J, hJ⟩ : ∃ J : Nat → St → Prop, ∀ m s, J m s ↔ ∃ j, j ≤ ys.length ∧ m = ys.length - j ∧ reasonArg (ys.drop j) = reasonArg ys ∧
        s = { env := [(0, .sl .no xs.length (encR .no (tDirS xs))), (2, .str []), (3, .bool false), (8, .sl .no xs.length (encR .no (tDirS xs))), (9, .int .i64 xs.length), (10, .int .i64 i), (5, .ptr 0 0 0), (18, .sl .no ys.length (encR .no (tArgS ys))), (19, .int .i64 ys.length), (20, .int .i64 j)], loc := [], K := [[.str x0, .sl .no ys.length (encR .no (tArgS ys))]] :: K } := ⟨_, fun _ _ => Iff.rfl⟩
      refine wC_loopI J ys.length ((hJ _ _).2 ⟨0, by omega, rfl, rfl, rfl⟩) (St.le_of (by simp) (by simp) rfl rfl) ?_
      intro m s hs
      obtain ⟨j, hj, rfl, hy, rfl⟩ := (hJ _ _).1 hs
      rcases Nat.lt_or_ge j ys.length with hlt2 | hge2
      · obtain ⟨y, hx2⟩ : ∃ x, ys[j]? = some x := ⟨_, List.getElem?_eq_getElem hlt2⟩
        have ea2 := atArg (m := .no) hx2
        have ed2 := reasonArg_drop hx2
        obtain ⟨y0, ⟨z0, z1, z2, z3⟩⟩ := y
        simp only [tArg, tValue, encL, encT, List.cons_append, List.nil_append] at ea2
        simp -implicitDefEqProofs [hlt2, ea2, encArgS_len]
        unfold maxLen at *
        simp (disch := omega) only [wrap64]
        refine ⟨fun e1 e2 => by rw [← hy, ed2]; simp [e1, e2], fun e1 => ⟨ys.length - (j + 1), by omega, _, St.le_of (by simp) (by simp [St.trunc, look, mapV, mapC, killP]) rfl (by simp [St.trunc, mapC]), (hJ _ _).2 ⟨j + 1, by omega, rfl, ?_, rfl⟩⟩⟩
        rw [← hy, ed2]; simp only []; rw [if_neg (fun e => e1 e.1 e.2)]
      · have e : j = ys.length := by omega
        subst e
        simp -implicitDefEqProofs
        rw [← hy]; simp [reasonArg]
  · have e : i = xs.length := by omega
    subst e
    simp -implicitDefEqProofs
    rw [← hz]; simp [reasonOf]
theorem c_ReasonOfS (xs : List DDir) (K) : Ct Try.prog 23 [.sl .no xs.length (encR .no (tDirS xs))] K (.tup [.str (reasonOf xs).1, .bool (reasonOf xs).2]) K := by
  refine ct_fn { n0 := 7, ex := [], tk := [48] } Try.func23 rfl (by kernel_rfl) (by kernel_rfl) rfl ?_
  simp -implicitDefEqProofs [Try.f23]
  obtain ⟨I, hI⟩ : ∃ I : Nat → St → Prop, ∀ m s, I m s ↔ ∃ i, i ≤ xs.length ∧ m = xs.length - i ∧ reasonOf (xs.drop i) = reasonOf xs ∧
    s = { env := [(0, .sl .no xs.length (encR .no (tDirS xs))), (2, .str []), (3, .bool false), (4, .int .i64 i)], loc := [], K := [] :: K } := ⟨_, fun _ _ => Iff.rfl⟩
  refine wC_loopI I xs.length ((hI _ _).2 ⟨0, by omega, rfl, rfl, rfl⟩) (St.le_of (by simp) (by simp) rfl rfl) ?_
  intro m s hs
  obtain ⟨i, hi, rfl, hz, rfl⟩ := (hI _ _).1 hs
  rcases Nat.lt_or_ge i xs.length with hlt | hge
  · obtain ⟨x, hx⟩ : ∃ x, xs[i]? = some x := ⟨_, List.getElem?_eq_getElem hlt⟩
    have ea := atDir (m := .no) hx
    have ed := reasonOf_drop hx
    obtain ⟨x0, ys⟩ := x
    simp only [tDir, encL, encT] at ea
    simp -implicitDefEqProofs [hlt, ea, encDirS_len]
    intro hm
    refine ⟨fun h => ?_, fun h => ?_⟩
    · unfold maxLen at *
      simp (disch := omega) only [wrap64]
      refine ⟨xs.length - (i + 1), by omega, _, St.le_of (by simp) (by simp [St.trunc, look, mapV, mapC, killP]) rfl (by simp [St.trunc, mapC]), (hI _ _).2 ⟨i + 1, by omega, rfl, ?_, rfl⟩⟩
      rw [← hz, ed]; simp [h]
    · have hr : reasonOf xs = (reasonArg ys, true) := by rw [← hz, ed]; simp [h]
      rw [hr]
      obtain ⟨J, hJ⟩ : ∃ J : Nat → St → Prop, ∀ m s, J m s ↔ ∃ j, j ≤ ys.length ∧ m = ys.length - j ∧ reasonArg (ys.drop j) = reasonArg ys ∧
        s = { env := [(0, .sl .no xs.length (encR .no (tDirS xs))), (2, .str []), (3, .bool false), (4, .int .i64 i), (5, .int .i64 j)], loc := [], K := [] :: K } := ⟨_, fun _ _ => Iff.rfl⟩
      refine wC_loopI J ys.length ((hJ _ _).2 ⟨0, by omega, rfl, rfl, rfl⟩) (St.le_of (by simp) (by simp) rfl rfl) ?_
      intro m s hs
      obtain ⟨j, hj, rfl, hy, rfl⟩ := (hJ _ _).1 hs
      rcases Nat.lt_or_ge j ys.length with hlt2 | hge2
      · obtain ⟨y, hx2⟩ : ∃ x, ys[j]? = some x := ⟨_, List.getElem?_eq_getElem hlt2⟩
        have ea2 := atArg (m := .no) hx2
        have ed2 := reasonArg_drop hx2
        obtain ⟨y0, ⟨z0, z1, z2, z3⟩⟩ := y
        simp only [tArg, tValue, encL, encT, List.cons_append, List.nil_append] at ea2
        simp -implicitDefEqProofs [hlt, ea, encDirS_len, hlt2, ea2, encArgS_len]
        intro hm2
        unfold maxLen at *
        simp (disch := omega) only [wrap64]
        refine ⟨fun e1 e2 => by rw [← hy, ed2]; simp [e1, e2], fun e1 => ⟨ys.length - (j + 1), by omega, _, St.le_of (by simp) (by simp [St.trunc, look, mapV, mapC, killP]) rfl (by simp [St.trunc, mapC]), (hJ _ _).2 ⟨j + 1, by omega, rfl, ?_, rfl⟩⟩⟩
        rw [← hy, ed2]; simp only []; rw [if_neg (fun e => e1 e.1 e.2)]
      · have e : j = ys.length := by omega
        subst e
        simp -implicitDefEqProofs [hlt, ea, encDirS_len]
        try intro hm2
        try rw [← hy]; simp [reasonArg]
  · have e : i = xs.length := by omega
    subst e
    simp -implicitDefEqProofs
    try intro hm
    try rw [← hz]; simp [reasonOf]
end Go.Proofs.Ytcgkcbmhjbbjmaa.Abs
