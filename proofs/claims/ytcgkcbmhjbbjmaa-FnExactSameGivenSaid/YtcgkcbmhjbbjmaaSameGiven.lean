/- SameValue, SameArgs, SameGiven. No condition. -/
import Derived.Test.YtcgkcbmhjbbjmaaFam
import Derived.Test.YtcgkcbmhjbbjmaaLib
set_option linter.unusedVariables false
set_option linter.unusedSimpArgs false
namespace Go.Proofs.Ytcgkcbmhjbbjmaa.Abs
open Go
set_option maxHeartbeats 1000000
set_option maxRecDepth 100000
theorem c_SameValue_rec : ∀ N : Nat, ∀ (a b : DValue) (K : List (List (List AC))) (hN : SizeOf.sizeOf a < N), Ct Try.prog 88 [.agg (encL .no (tValue a)), .agg (encL .no (tValue b))] K (.bool (eqB a b)) K := by
  intro N
  induction N with
  | zero => intro a b K hN; omega
  | succ N ih =>
  intro a b K hN
  obtain ⟨x0, x1, x2, x3⟩ := a
  obtain ⟨y0, y1, y2, y3⟩ := b
  refine ct_fn { n0 := 5, ex := [], tk := [22, 29] } Try.func88 rfl (by kernel_rfl) (by kernel_rfl) rfl ?_
  simp -implicitDefEqProofs [Try.f88, tValue, encL_app, encL, encT]
  refine callK_still (fun _ => c_EqualStr x3 y3 _) ?_
  simp -implicitDefEqProofs
  refine callK_still (fun _ => c_EqualFuncValue x2 y2 _ _ (fun x hx y F => ih x y _ (by have := List.sizeOf_lt_of_mem hx; simp at hN; omega))) ?_
  simp -implicitDefEqProofs
  rw [Bool.eq_iff_iff]; simp [eqB_iff]
  try constructor
  all_goals (try rintro ⟨⟩; try simp)
  all_goals (try grind)
theorem c_SameValue (a b : DValue) (K) : Ct Try.prog 88 [.agg (encL .no (tValue a)), .agg (encL .no (tValue b))] K (.bool (eqB a b)) K := c_SameValue_rec _ a b K (Nat.lt_succ_self _)
theorem c_SameArgs1 (a b : DArg) (K) : Ct Try.prog 130 [.agg (encL .no (tArg a)), .agg (encL .no (tArg b))] K (.bool (eqB a b)) K := by
  obtain ⟨x, z⟩ := a
  obtain ⟨y, w⟩ := b
  have h1 := c_SameValue z w
  obtain ⟨x0, x1, x2, x3⟩ := z
  obtain ⟨y0, y1, y2, y3⟩ := w
  simp only [tValue, encL, encT, Md.ow_no, tStrS_len, tValueS_len] at h1
  refine ct_fn { n0 := 5, ex := [], tk := [15] } Try.func130 rfl (by kernel_rfl) (by kernel_rfl) rfl ?_
  simp -implicitDefEqProofs [Try.f130, tArg, tValue, encL_app, encL, encT]
  refine callK_still (fun _ => h1 _) ?_
  simp -implicitDefEqProofs
  rw [Bool.eq_iff_iff]; simp [eqB_iff]
theorem c_SameArgs (xs ys : List DArg) (K) : Ct Try.prog 84 [.sl .no xs.length (encR .no (tArgS xs)), .sl .no ys.length (encR .no (tArgS ys))] K (.bool (eqB xs ys)) K := by
  refine ct_fn { n0 := 5, ex := [], tk := [7] } Try.func84 rfl (by kernel_rfl) (by kernel_rfl) rfl ?_
  simp -implicitDefEqProofs [Try.f84]
  refine callK_of (c_EqualFuncArg xs ys _ _ (fun x hx y F => c_SameArgs1 x y _)) ?_
  simp -implicitDefEqProofs
/-- One that reads as x among ys. -/
noncomputable def given (xs ys : List DArg) : Bool := xs.all (fun x => ys.any (fun y => eqB x y))
noncomputable def sameGiven (xs ys : List DArg) : Bool := if xs.length > 100 ∨ ys.length > 100 then eqB xs ys else decide (xs.length = ys.length) && given xs ys
theorem c_SameGiven11 (x y : DArg) (K) : Ct Try.prog 87 [.agg (encL .no (tArg y)), .ptr 2 0 0] ([] :: [] :: [encL .no (tArg x)] :: K) (.bool (eqB x y)) ([] :: [] :: [encL .no (tArg x)] :: K) := by
  obtain ⟨x, z⟩ := x
  obtain ⟨y, w⟩ := y
  have h1 := c_SameValue z w
  obtain ⟨x0, x1, x2, x3⟩ := z
  obtain ⟨y0, y1, y2, y3⟩ := w
  simp only [tValue, encL, encT, Md.ow_no, tStrS_len, tValueS_len] at h1
  refine ct_fn { n0 := 4, ex := [], tk := [14] } Try.func87 rfl (by kernel_rfl) (by kernel_rfl) rfl ?_
  simp -implicitDefEqProofs [Try.f87, tArg, tValue, encL_app, encL, encT]
  refine callK_still (fun _ => h1 _) ?_
  simp -implicitDefEqProofs
  rw [Bool.eq_iff_iff]; simp [eqB_iff]
theorem c_SameGiven1 (x : DArg) (ys : List DArg) (K) : Ct Try.prog 86 [.agg (encL .no (tArg x)), .ptr 2 0 0] ([] :: [] :: [[.sl .no ys.length (encR .no (tArgS ys))]] :: K) (.bool (!(ys.any (fun y => eqB x y)))) ([] :: [] :: [[.sl .no ys.length (encR .no (tArgS ys))]] :: K) := by
  have hek := encL_len (m := .no) (r := tArg x)
  rw [tArg_len] at hek
  have htk : (encL .no (tArg x)).take 5 = encL .no (tArg x) := List.take_of_length_le (by omega)
  refine ct_fn { n0 := 4, ex := [], tk := [6] } Try.func86 rfl (by kernel_rfl) (by kernel_rfl) rfl ?_
  simp -implicitDefEqProofs [Try.f86, hek, htk]
  refine callK_of (c_ContainsFuncArg ys (fun y => eqB x y) _ _ _ (fun y hy => by simpa using c_SameGiven11 x y _)) ?_
  simp -implicitDefEqProofs
theorem c_SameGiven (xs ys : List DArg) (K) : Ct Try.prog 30 [.sl .no xs.length (encR .no (tArgS xs)), .sl .no ys.length (encR .no (tArgS ys))] K (.bool (sameGiven xs ys)) K := by
  refine ct_fn { n0 := 5, ex := [], tk := [15, 23] } Try.func30 rfl (by kernel_rfl) (by kernel_rfl) rfl ?_
  simp -implicitDefEqProofs [Try.f30]
  intro h1 h2
  refine ⟨fun h => ?_, fun h3 h4 _ _ => ⟨fun h => ?_, fun h => ?_⟩⟩
  · refine callK_of (c_SameArgs xs ys _) ?_
    simp -implicitDefEqProofs
    unfold sameGiven; rw [if_pos (by omega)]
  · unfold sameGiven; rw [if_neg (by omega)]
    have : xs.length ≠ ys.length := by omega
    simp [this]
  · refine callK_of (c_ContainsFuncArg xs (fun x => !(ys.any (fun y => eqB x y))) _ _ _ (fun x hx => by simpa using c_SameGiven1 x ys _)) ?_
    simp -implicitDefEqProofs
    unfold sameGiven given; rw [if_neg (by omega)]
    have : xs.length = ys.length := by omega
    rw [List.any_eq_not_all_not]
    simp [this]
theorem c_SameValueS_rec : ∀ N : Nat, ∀ (a b : DValue) (K : List (List (List AC))) (hN : SizeOf.sizeOf a < N), Ct Try.prog 82 [.agg (encL .no (tValue a)), .agg (encL .no (tValue b))] K (.bool (eqB a b)) K := by
  intro N
  induction N with
  | zero => intro a b K hN; omega
  | succ N ih =>
  intro a b K hN
  obtain ⟨x0, x1, x2, x3⟩ := a
  obtain ⟨y0, y1, y2, y3⟩ := b
  refine ct_fn { n0 := 7, ex := [], tk := [72] } Try.func82 rfl (by kernel_rfl) (by kernel_rfl) rfl ?_
  simp -implicitDefEqProofs [Try.f82, tValue, encL_app, encL, encT]
  intro n1 n2 n3 n4
  refine ⟨fun h => eqB_ne fun e => ?_, fun e0 e1 e2 e3 => ?_⟩
  · cases e; simp at h
  obtain ⟨I, hI⟩ : ∃ I : Nat → St → Prop, ∀ m s, I m s ↔ ∃ i, i ≤ x3.length ∧ m = x3.length - i ∧ x3.take i = y3.take i ∧
    s = { env := [(0, .agg [.int .i64 x0, .str x1, .sl .no x2.length (encR .no (tValueS x2)), .sl .no x3.length (encR .no (tStrS x3))]), (1, .agg [.int .i64 y0, .str y1, .sl .no y2.length (encR .no (tValueS y2)), .sl .no y3.length (encR .no (tStrS y3))]), (2, .ptr 0 0 0), (3, .ptr 0 1 0), (4, .bool false), (5, .int .i64 i)], loc := [],
          K := [[.int .i64 x0, .str x1, .sl .no x2.length (encR .no (tValueS x2)), .sl .no x3.length (encR .no (tStrS x3))], [.int .i64 y0, .str y1, .sl .no y2.length (encR .no (tValueS y2)), .sl .no y3.length (encR .no (tStrS y3))]] :: K } := ⟨_, fun _ _ => Iff.rfl⟩
  refine wC_loopI I x3.length ((hI _ _).2 ⟨0, by omega, rfl, by simp, rfl⟩) (St.le_of (by simp) (by simp) rfl rfl) ?_
  intro m s hs
  obtain ⟨i, hi, rfl, hz, rfl⟩ := (hI _ _).1 hs
  rcases Nat.lt_or_ge i x3.length with hlt | hge
  · obtain ⟨x, hx⟩ : ∃ x, x3[i]? = some x := ⟨_, List.getElem?_eq_getElem hlt⟩
    obtain ⟨z, hz2⟩ : ∃ x, y3[i]? = some x := ⟨_, List.getElem?_eq_getElem (by omega)⟩
    have ea := atStr (m := .no) hx
    have eb := atStr (m := .no) hz2
    have hlt2 : i < y3.length := by omega
    simp only [Nat.mul_one] at ea eb
    simp -implicitDefEqProofs [hlt, hlt2, ea, eb, encL, encT, encStrS_len]
    intro _
    refine wRun_draw false rfl (by decide +kernel) ?_
    simp -implicitDefEqProofs [hlt, hlt2, ea, eb, encL, encT, encStrS_len]
    refine ⟨fun h3 => eqB_ne fun e => h3 (by cases e; rw [hz2] at hx; cases hx; rfl), fun h3 => ?_⟩
    unfold maxLen at *
    simp (disch := omega) only [wrap64]
    refine ⟨x3.length - (i + 1), by omega, _, St.le_of (by simp) (by simp [St.trunc, look, mapV, mapC, killP]) rfl (by simp [St.trunc, mapC]), (hI _ _).2 ⟨i + 1, by omega, rfl, ?_, rfl⟩⟩
    rw [List.take_add_one, List.take_add_one, hz, hx, hz2, h3]
  · have e : i = x3.length := by omega
    subst e
    have e4 : x3 = y3 := by rw [List.take_of_length_le (by omega), List.take_of_length_le (by omega)] at hz; exact hz
    simp -implicitDefEqProofs
    intro _
    obtain ⟨J, hJ⟩ : ∃ I : Nat → St → Prop, ∀ m s, I m s ↔ ∃ i, i ≤ x2.length ∧ m = x2.length - i ∧ x2.take i = y2.take i ∧
      s = { env := [(0, .agg [.int .i64 x0, .str x1, .sl .no x2.length (encR .no (tValueS x2)), .sl .no x3.length (encR .no (tStrS x3))]), (1, .agg [.int .i64 y0, .str y1, .sl .no y2.length (encR .no (tValueS y2)), .sl .no y3.length (encR .no (tStrS y3))]), (2, .ptr 0 0 0), (3, .ptr 0 1 0), (4, .bool false), (5, .int .i64 x3.length), (6, .int .i64 i)], loc := [],
            K := [[.int .i64 x0, .str x1, .sl .no x2.length (encR .no (tValueS x2)), .sl .no x3.length (encR .no (tStrS x3))], [.int .i64 y0, .str y1, .sl .no y2.length (encR .no (tValueS y2)), .sl .no y3.length (encR .no (tStrS y3))]] :: K } := ⟨_, fun _ _ => Iff.rfl⟩
    refine wC_loopI J x2.length ((hJ _ _).2 ⟨0, by omega, rfl, by simp, rfl⟩) (St.le_of (by simp) (by simp) rfl rfl) ?_
    intro m s hs
    obtain ⟨i, hi, rfl, hz, rfl⟩ := (hJ _ _).1 hs
    rcases Nat.lt_or_ge i x2.length with hlt | hge
    · obtain ⟨x, hx⟩ : ∃ x, x2[i]? = some x := ⟨_, List.getElem?_eq_getElem hlt⟩
      obtain ⟨z, hz2⟩ : ∃ x, y2[i]? = some x := ⟨_, List.getElem?_eq_getElem (by omega)⟩
      have ea := atValue (m := .no) hx
      have eb := atValue (m := .no) hz2
      have hlt2 : i < y2.length := by omega
      have hek := encL_len (m := .no) (r := tValue x)
      have hek2 := encL_len (m := .no) (r := tValue z)
      rw [tValue_len] at hek hek2
      have hc := fun K => ih x z K (by have := List.sizeOf_lt_of_mem (List.mem_of_getElem? hx); simp at hN; omega)
      have htk : (encL .no (tValue x)).take 4 = encL .no (tValue x) := List.take_of_length_le (by omega)
      have htk2 : (encL .no (tValue z)).take 4 = encL .no (tValue z) := List.take_of_length_le (by omega)
      simp -implicitDefEqProofs [hlt, hlt2, ea, eb, hek, hek2, htk, htk2, encValueS_len]
      intro _
      refine wRun_draw true rfl (by decide +kernel) ?_
      simp -implicitDefEqProofs [hlt, hlt2, ea, eb, hek, hek2, htk, htk2, encValueS_len]
      refine callK_of (hc _) ?_
      simp -implicitDefEqProofs
      refine ⟨fun h3 => eqB_ne fun e => (by cases e; rw [hz2] at hx; cases hx; rw [eqB_self] at h3; cases h3), fun h3 => ?_⟩
      rw [eqB_iff] at h3
      subst h3
      unfold maxLen at *
      simp (disch := omega) only [wrap64]
      refine ⟨x2.length - (i + 1), by omega, _, St.le_of (by simp) (by simp [St.trunc, look, mapV, mapC, killP]) rfl (by simp [St.trunc, mapC]), (hJ _ _).2 ⟨i + 1, by omega, rfl, ?_, rfl⟩⟩
      rw [List.take_add_one, List.take_add_one, hz, hx, hz2]
    · have e : i = x2.length := by omega
      subst e
      have e5 : x2 = y2 := by rw [List.take_of_length_le (by omega), List.take_of_length_le (by omega)] at hz; exact hz
      simp -implicitDefEqProofs
      intro _
      rw [eqB_iff, e0, e1, e4, e5]
theorem c_SameValueS (a b : DValue) (K) : Ct Try.prog 82 [.agg (encL .no (tValue a)), .agg (encL .no (tValue b))] K (.bool (eqB a b)) K := c_SameValueS_rec _ a b K (Nat.lt_succ_self _)
theorem eqB_take {α : Type} {xs ys : List α} {i : Nat} (h : xs.take i = ys.take i) (h1 : i ≤ xs.length) (h2 : i ≤ ys.length) (h3 : i = xs.length ∨ i = ys.length) : eqB xs ys = decide ((xs.length : Int) = (ys.length : Int)) := by
  by_cases e : xs.length = ys.length
  · rw [List.take_of_length_le (by omega), List.take_of_length_le (by omega)] at h
    subst h; rw [eqB_self]; simp
  · have : xs ≠ ys := fun h => e (by rw [h])
    rw [eqB_ne this]
    have : ¬ (xs.length : Int) = (ys.length : Int) := by omega
    simp [this]
theorem c_SameArgsS (xs ys : List DArg) (K) : Ct Try.prog 81 [.sl .no xs.length (encR .no (tArgS xs)), .sl .no ys.length (encR .no (tArgS ys))] K (.bool (eqB xs ys)) K := by
  refine ct_fn { n0 := 6, ex := [], tk := [40] } Try.func81 rfl (by kernel_rfl) (by kernel_rfl) rfl ?_
  simp -implicitDefEqProofs [Try.f81]
  obtain ⟨I, hI⟩ : ∃ I : Nat → St → Prop, ∀ m s, I m s ↔ ∃ i, i ≤ xs.length ∧ i ≤ ys.length ∧ m = xs.length - i ∧ xs.take i = ys.take i ∧
    s = { env := [(0, .sl .no xs.length (encR .no (tArgS xs))), (1, .sl .no ys.length (encR .no (tArgS ys))), (4, .bool false), (5, .int .i64 i)], loc := [], K := [] :: K } := ⟨_, fun _ _ => Iff.rfl⟩
  refine wC_loopI I xs.length ((hI _ _).2 ⟨0, by omega, by omega, rfl, by simp, rfl⟩) (St.le_of (by simp) (by simp) rfl rfl) ?_
  intro m s hs
  obtain ⟨i, hi, hi2, rfl, hz, rfl⟩ := (hI _ _).1 hs
  by_cases hlt : i < xs.length
  · by_cases hlt2 : i < ys.length
    · obtain ⟨x, hx⟩ : ∃ x, xs[i]? = some x := ⟨_, List.getElem?_eq_getElem hlt⟩
      obtain ⟨z, hz2⟩ : ∃ x, ys[i]? = some x := ⟨_, List.getElem?_eq_getElem (by omega)⟩
      have ea := atArg (m := .no) hx
      have eb := atArg (m := .no) hz2
      have hc := c_SameValueS x.value z.value
      obtain ⟨x, ⟨x0, x1, x2, x3⟩⟩ := x
      obtain ⟨y, ⟨y0, y1, y2, y3⟩⟩ := z
      simp only [tValue, encL, encT, Md.ow_no, tStrS_len, tValueS_len] at hc
      simp only [tArg, tValue, encL_app, encL, encT, List.cons_append, List.nil_append, Md.ow_no, tStrS_len, tValueS_len] at ea eb
      simp -implicitDefEqProofs [hlt, hlt2, ea, eb, encArgS_len]
      intro _ _
      refine wRun_draw true rfl (by decide +kernel) ?_
      simp -implicitDefEqProofs [hlt, hlt2, ea, eb, encArgS_len]
      refine callK_still (fun _ => hc _) ?_
      simp -implicitDefEqProofs
      refine ⟨fun h3 => eqB_ne fun e => ?_, fun h3 h4 => ?_⟩
      · subst e; rw [hz2] at hx; cases hx; rw [eqB_self] at h3; simp at h3
      · rw [eqB_iff] at h4
        unfold maxLen at *
        simp (disch := omega) only [wrap64]
        refine ⟨xs.length - (i + 1), by omega, _, St.le_of (by simp) (by simp [St.trunc, look, mapV, mapC, killP]) rfl (by simp [St.trunc, mapC]), (hI _ _).2 ⟨i + 1, by omega, by omega, rfl, ?_, rfl⟩⟩
        rw [List.take_add_one, List.take_add_one, hz, hx, hz2, h3, h4]
    · simp -implicitDefEqProofs [hlt, hlt2]
      intro _ _ _ _
      exact eqB_take hz hi hi2 (.inr (by omega))
  · simp -implicitDefEqProofs [hlt]
    intro _ _
    exact eqB_take hz hi hi2 (.inl (by omega))
noncomputable def among (x : DArg) (ys : List DArg) : Bool := ys.any (fun y => eqB x y)
theorem among_nil (x : DArg) : among x [] = false := rfl
theorem among_succ {x : DArg} {ys : List DArg} {j : Nat} {y : DArg} (h : ys[j]? = some y) : among x (ys.take (j + 1)) = (among x (ys.take j) || eqB x y) := by
  unfold among; rw [List.take_add_one, h]; simp
theorem given_drop {xs ys : List DArg} {i : Nat} {x : DArg} (h : xs[i]? = some x) : given (xs.drop i) ys = (among x ys && given (xs.drop (i + 1)) ys) := by
  obtain ⟨hlt, rfl⟩ := List.getElem?_eq_some_iff.1 h
  rw [List.drop_eq_getElem_cons hlt]; rfl
theorem c_SameGivenS (xs ys : List DArg) (K) : Ct Try.prog 28 [.sl .no xs.length (encR .no (tArgS xs)), .sl .no ys.length (encR .no (tArgS ys))] K (.bool (sameGiven xs ys)) K := by
  refine ct_fn { n0 := 8, ex := [], tk := [26, 64] } Try.func28 rfl (by kernel_rfl) (by kernel_rfl) rfl ?_
  simp -implicitDefEqProofs [Try.f28]
  intro n1 n2 n3
  refine ⟨fun h _ _ => ?_, fun h1 h2 => ?_⟩
  · refine callK_still (fun _ => c_SameArgsS xs ys _) ?_
    simp -implicitDefEqProofs
    unfold sameGiven
    split
    · rw [Bool.eq_iff_iff]; simp [eqB_iff]; intro e; rw [e]
    · have : xs.length ≠ ys.length := by omega
      have h' : ¬ (xs.length : Int) = (ys.length : Int) := by omega
      simp [this, h']
  · have hr : sameGiven xs ys = given xs ys := by
      unfold sameGiven; rw [if_neg (by omega)]
      have : xs.length = ys.length := by omega
      simp [this]
    rw [hr]
    obtain ⟨I, hI⟩ : ∃ I : Nat → St → Prop, ∀ m s, I m s ↔ ∃ i, i ≤ xs.length ∧ m = xs.length - i ∧ given (xs.drop i) ys = given xs ys ∧
      s = { env := [(0, .sl .no xs.length (encR .no (tArgS xs))), (1, .sl .no ys.length (encR .no (tArgS ys))), (4, .bool false), (5, .int .i64 i)], loc := [], K := [] :: K } := ⟨_, fun _ _ => Iff.rfl⟩
    refine wC_loopI I xs.length ((hI _ _).2 ⟨0, by omega, rfl, by simp, rfl⟩) (St.le_of (by simp) (by simp) rfl rfl) ?_
    intro m s hs
    obtain ⟨i, hi, rfl, hz, rfl⟩ := (hI _ _).1 hs
    rcases Nat.lt_or_ge i xs.length with hlt | hge
    · obtain ⟨x, hx⟩ : ∃ x, xs[i]? = some x := ⟨_, List.getElem?_eq_getElem hlt⟩
      have ed := given_drop (ys := ys) hx
      simp -implicitDefEqProofs [hlt]
      intro _
      obtain ⟨J, hJ⟩ : ∃ I : Nat → St → Prop, ∀ m s, I m s ↔ ∃ j, j ≤ ys.length ∧ m = ys.length - j ∧
        s = { env := [(0, .sl .no xs.length (encR .no (tArgS xs))), (1, .sl .no ys.length (encR .no (tArgS ys))), (4, .bool false), (5, .int .i64 i), (6, .bool (among x (ys.take j))), (7, .int .i64 j)], loc := [], K := [] :: K } := ⟨_, fun _ _ => Iff.rfl⟩
      refine wC_loopI J ys.length ((hJ _ _).2 ⟨0, by omega, rfl, rfl⟩) (St.le_of (by simp) (by simp [among_nil]) rfl rfl) ?_
      intro m s hs
      obtain ⟨j, hj, rfl, rfl⟩ := (hJ _ _).1 hs
      rcases Nat.lt_or_ge j ys.length with hlt2 | hge2
      · obtain ⟨z, hz2⟩ : ∃ x, ys[j]? = some x := ⟨_, List.getElem?_eq_getElem (by omega)⟩
        have ea := atArg (m := .no) hx
        have eb := atArg (m := .no) hz2
        have hc := c_SameValueS x.value z.value
        obtain ⟨x, ⟨x0, x1, x2, x3⟩⟩ := x
        obtain ⟨y, ⟨y0, y1, y2, y3⟩⟩ := z
        simp only [tValue, encL, encT, Md.ow_no, tStrS_len, tValueS_len] at hc
        simp only [tArg, tValue, encL_app, encL, encT, List.cons_append, List.nil_append, Md.ow_no, tStrS_len, tValueS_len] at ea eb
        simp -implicitDefEqProofs [hlt, hlt2]
        intro _
        refine wRun_draw true rfl (by decide +kernel) ?_
        simp -implicitDefEqProofs [hlt, hlt2, ea, eb, encArgS_len]
        refine callK_still (fun _ => hc _) ?_
        simp -implicitDefEqProofs
        unfold maxLen at *
        simp (disch := omega) only [wrap64]
        have e : (among { name := x, value := { kind := x0, text := x1, items := x2, names := x3 } } (ys.take j) || decide (x = y) && eqB ({ kind := x0, text := x1, items := x2, names := x3 } : DValue) { kind := y0, text := y1, items := y2, names := y3 }) = among { name := x, value := { kind := x0, text := x1, items := x2, names := x3 } } (ys.take (j + 1)) := by
          rw [among_succ hz2, Bool.eq_iff_iff]; simp [eqB_iff]
        rw [e]
        exact ⟨ys.length - (j + 1), by omega, _, St.le_of (by simp) (by simp [St.trunc, look, mapV, mapC, killP]) rfl (by simp [St.trunc, mapC]), (hJ _ _).2 ⟨j + 1, by omega, rfl, rfl⟩⟩
      · have e : j = ys.length := by omega
        subst e
        rw [List.take_of_length_le (Nat.le_refl _)]
        simp -implicitDefEqProofs
        intro _
        refine ⟨fun h => by rw [← hz, ed, h]; rfl, fun h => ?_⟩
        unfold maxLen at *
        simp (disch := omega) only [wrap64]
        refine ⟨xs.length - (i + 1), by omega, _, St.le_of (by simp) (by simp [St.trunc, look, mapV, mapC, killP]) rfl (by simp [St.trunc, mapC]), (hI _ _).2 ⟨i + 1, by omega, rfl, ?_, rfl⟩⟩
        rw [← hz, ed, h]; simp
    · have e : i = xs.length := by omega
      subst e
      simp -implicitDefEqProofs
      try intro _
      rw [← hz]; simp [given]
end Go.Proofs.Ytcgkcbmhjbbjmaa.Abs
