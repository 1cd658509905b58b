/- PRINTED by lib.py: functions of Go's package slices at the element types. No condition. -/
import Derived.Test.YtcgkcbmhjbbjmaaFStr
import Derived.Test.YtcgkcbmhjbbjmaaLend
set_option linter.unusedVariables false
set_option linter.unusedSimpArgs false
namespace Go.Proofs.Ytcgkcbmhjbbjmaa.Abs
open Go
set_option maxHeartbeats 1000000
set_option maxRecDepth 100000
/-- Where the first element that p takes stands. -/
def idxOf {α : Type} (p : α → Bool) : List α → Int → Int
  | [], _ => -1
  | x :: xs, i => if p x then i else idxOf p xs (i + 1)
theorem idxOf_drop {α : Type} {p : α → Bool} {xs : List α} {i : Nat} {x : α} (h : xs[i]? = some x) (k : Int) : idxOf p (xs.drop i) k = if p x then k else idxOf p (xs.drop (i + 1)) (k + 1) := by
  obtain ⟨hlt, rfl⟩ := List.getElem?_eq_some_iff.1 h
  rw [List.drop_eq_getElem_cons hlt]; rfl
theorem idxOf_any {α : Type} {p : α → Bool} {xs : List α} : ∀ {k : Int}, 0 ≤ k → (0 ≤ idxOf p xs k ↔ xs.any p = true) := by
  induction xs with
  | nil => intro k h; simp [idxOf]
  | cons x xs ih =>
    intro k h
    simp only [idxOf, List.any_cons, Bool.or_eq_true]
    by_cases hp : p x = true
    · simp [hp, h]
    · simp only [hp, Bool.false_eq_true, if_false, false_or]; exact ih (by omega)
theorem idxOf_neg {α : Type} {p : α → Bool} {xs : List α} : ∀ {k : Int}, 0 ≤ k → (idxOf p xs k < 0 ↔ xs.any p = false) := by
  intro k h
  have := idxOf_any (p := p) (xs := xs) h
  cases hx : xs.any p <;> simp [hx] at this <;> simp <;> omega
theorem idxOf_le {α : Type} {p : α → Bool} {xs : List α} : ∀ {k : Int}, 0 ≤ k → -1 ≤ idxOf p xs k ∧ idxOf p xs k < k + xs.length ∨ xs = [] ∧ idxOf p xs k = -1 := by
  induction xs with
  | nil => intro k h; exact .inr ⟨rfl, rfl⟩
  | cons x xs ih =>
    intro k h
    left
    simp only [idxOf, List.length_cons]
    split
    · omega
    · rcases ih (k := k + 1) (by omega) with h1 | ⟨_, h1⟩ <;> omega
theorem c_IndexFuncArg (xs : List DArg) (p : DArg → Bool) (g : FuncId) (caps : List AC) (K : List (List (List AC)))
    (h : ∀ x ∈ xs, Ct Try.prog g (.agg (encL .no (tArg x)) :: caps.map (liftP 1)) ([] :: K) (.bool (p x)) ([] :: K)) :
    Ct Try.prog 131 [.sl .no xs.length (encR .no (tArgS xs)), .fn g caps] K (.int .i64 (idxOf p xs 0)) K := by
  refine ct_fn { n0 := 6, ex := [7, 8], tk := [16, 17] } Try.func131 rfl (by kernel_rfl) (by kernel_rfl) rfl ?_
  simp -implicitDefEqProofs [Try.f131]
  intro h1
  obtain ⟨I, hI⟩ : ∃ I : Nat → St → Prop, ∀ m s, I m s ↔ ∃ i, i ≤ xs.length ∧ m = xs.length - i ∧ idxOf p (xs.drop i) i = idxOf p xs 0 ∧
    s = { env := [(0, .sl .no xs.length (encR .no (tArgS xs))), (1, .fn g (caps.map (liftP 1))), (4, .int .i64 0), (7, .int .i64 xs.length), (8, .int .i64 i)], loc := [], K := [] :: K } := ⟨_, fun _ _ => Iff.rfl⟩
  refine wC_loopI I xs.length ((hI _ _).2 ⟨0, by omega, rfl, rfl, rfl⟩) (St.le_of (by simp) (by simp) rfl rfl) ?_
  intro m s hs
  obtain ⟨i, hi, rfl, hz, rfl⟩ := (hI _ _).1 hs
  rcases Nat.lt_or_ge i xs.length with hlt | hge
  · obtain ⟨x, hx⟩ : ∃ x, xs[i]? = some x := ⟨_, List.getElem?_eq_getElem hlt⟩
    have ea := atArg (m := .no) hx
    have ed := idxOf_drop (p := p) hx i
    have hc := h x (List.mem_of_getElem? hx)
    have hek := encL_len (m := .no) (r := tArg x)
    rw [tArg_len] at hek
    have htk : (encL .no (tArg x)).take 5 = encL .no (tArg x) := List.take_of_length_le (by omega)
    simp -implicitDefEqProofs [hlt, ea, hek, htk, encArgS_len]
    refine callK_of (by simpa using hc) ?_
    simp -implicitDefEqProofs
    refine ⟨fun h => by rw [← hz, ed]; simp [h], fun h => ?_⟩
    unfold maxLen at *
    simp (disch := omega) only [wrap64]
    refine ⟨xs.length - (i + 1), by omega, _, St.le_of (by simp) (by simp [St.trunc, look, mapV, mapC]) rfl (by simp [St.trunc]), (hI _ _).2 ⟨i + 1, by omega, rfl, ?_, rfl⟩⟩
    rw [← hz, ed]; simp [h]
  · have e : i = xs.length := by omega
    subst e
    simp -implicitDefEqProofs
    rw [← hz]; simp [idxOf]
theorem c_ContainsFuncArg (xs : List DArg) (p : DArg → Bool) (g : FuncId) (caps : List AC) (K : List (List (List AC)))
    (h : ∀ x ∈ xs, Ct Try.prog g (.agg (encL .no (tArg x)) :: caps.map (liftP 1 ∘ liftP 1)) ([] :: [] :: K) (.bool (p x)) ([] :: [] :: K)) :
    Ct Try.prog 85 [.sl .no xs.length (encR .no (tArgS xs)), .fn g caps] K (.bool (xs.any p)) K := by
  refine ct_fn { n0 := 5, ex := [], tk := [7] } Try.func85 rfl (by kernel_rfl) (by kernel_rfl) rfl ?_
  simp -implicitDefEqProofs [Try.f85]
  refine callK_of (c_IndexFuncArg xs p g (caps.map (liftP 1)) _ (fun x hx => by simpa using h x hx)) ?_
  simp -implicitDefEqProofs
  have := idxOf_any (p := p) (xs := xs) (k := 0) (by omega)
  by_cases hp : 0 ≤ idxOf p xs 0
  · simp only [hp, decide_true]; exact this.1 hp
  · simp only [hp, decide_false]; cases hx : xs.any p
    · rfl
    · exact absurd (this.2 hx) hp
theorem c_IndexFuncFrag (xs : List DFrag) (p : DFrag → Bool) (g : FuncId) (caps : List AC) (K : List (List (List AC)))
    (h : ∀ x ∈ xs, Ct Try.prog g (.agg (encL .no (tFrag x)) :: caps.map (liftP 1)) ([] :: K) (.bool (p x)) ([] :: K)) :
    Ct Try.prog 92 [.sl .no xs.length (encR .no (tFragS xs)), .fn g caps] K (.int .i64 (idxOf p xs 0)) K := by
  refine ct_fn { n0 := 6, ex := [7, 8], tk := [16, 17] } Try.func92 rfl (by kernel_rfl) (by kernel_rfl) rfl ?_
  simp -implicitDefEqProofs [Try.f92]
  intro h1
  obtain ⟨I, hI⟩ : ∃ I : Nat → St → Prop, ∀ m s, I m s ↔ ∃ i, i ≤ xs.length ∧ m = xs.length - i ∧ idxOf p (xs.drop i) i = idxOf p xs 0 ∧
    s = { env := [(0, .sl .no xs.length (encR .no (tFragS xs))), (1, .fn g (caps.map (liftP 1))), (4, .int .i64 0), (7, .int .i64 xs.length), (8, .int .i64 i)], loc := [], K := [] :: K } := ⟨_, fun _ _ => Iff.rfl⟩
  refine wC_loopI I xs.length ((hI _ _).2 ⟨0, by omega, rfl, rfl, rfl⟩) (St.le_of (by simp) (by simp) rfl rfl) ?_
  intro m s hs
  obtain ⟨i, hi, rfl, hz, rfl⟩ := (hI _ _).1 hs
  rcases Nat.lt_or_ge i xs.length with hlt | hge
  · obtain ⟨x, hx⟩ : ∃ x, xs[i]? = some x := ⟨_, List.getElem?_eq_getElem hlt⟩
    have ea := atFrag (m := .no) hx
    have ed := idxOf_drop (p := p) hx i
    have hc := h x (List.mem_of_getElem? hx)
    have hek := encL_len (m := .no) (r := tFrag x)
    rw [tFrag_len] at hek
    have htk : (encL .no (tFrag x)).take 4 = encL .no (tFrag x) := List.take_of_length_le (by omega)
    simp -implicitDefEqProofs [hlt, ea, hek, htk, encFragS_len]
    refine callK_of (by simpa using hc) ?_
    simp -implicitDefEqProofs
    refine ⟨fun h => by rw [← hz, ed]; simp [h], fun h => ?_⟩
    unfold maxLen at *
    simp (disch := omega) only [wrap64]
    refine ⟨xs.length - (i + 1), by omega, _, St.le_of (by simp) (by simp [St.trunc, look, mapV, mapC]) rfl (by simp [St.trunc]), (hI _ _).2 ⟨i + 1, by omega, rfl, ?_, rfl⟩⟩
    rw [← hz, ed]; simp [h]
  · have e : i = xs.length := by omega
    subst e
    simp -implicitDefEqProofs
    rw [← hz]; simp [idxOf]
theorem c_IndexFuncDef (xs : List DDef) (p : DDef → Bool) (g : FuncId) (caps : List AC) (K : List (List (List AC)))
    (h : ∀ x ∈ xs, Ct Try.prog g (.agg (encL .no (tDef x)) :: caps.map (liftP 1)) ([] :: K) (.bool (p x)) ([] :: K)) :
    Ct Try.prog 204 [.sl .no xs.length (encR .no (tDefS xs)), .fn g caps] K (.int .i64 (idxOf p xs 0)) K := by
  refine ct_fn { n0 := 6, ex := [7, 8], tk := [16, 17] } Try.func204 rfl (by kernel_rfl) (by kernel_rfl) rfl ?_
  simp -implicitDefEqProofs [Try.f204]
  intro h1
  obtain ⟨I, hI⟩ : ∃ I : Nat → St → Prop, ∀ m s, I m s ↔ ∃ i, i ≤ xs.length ∧ m = xs.length - i ∧ idxOf p (xs.drop i) i = idxOf p xs 0 ∧
    s = { env := [(0, .sl .no xs.length (encR .no (tDefS xs))), (1, .fn g (caps.map (liftP 1))), (4, .int .i64 0), (7, .int .i64 xs.length), (8, .int .i64 i)], loc := [], K := [] :: K } := ⟨_, fun _ _ => Iff.rfl⟩
  refine wC_loopI I xs.length ((hI _ _).2 ⟨0, by omega, rfl, rfl, rfl⟩) (St.le_of (by simp) (by simp) rfl rfl) ?_
  intro m s hs
  obtain ⟨i, hi, rfl, hz, rfl⟩ := (hI _ _).1 hs
  rcases Nat.lt_or_ge i xs.length with hlt | hge
  · obtain ⟨x, hx⟩ : ∃ x, xs[i]? = some x := ⟨_, List.getElem?_eq_getElem hlt⟩
    have ea := atDef (m := .no) hx
    have ed := idxOf_drop (p := p) hx i
    have hc := h x (List.mem_of_getElem? hx)
    have hek := encL_len (m := .no) (r := tDef x)
    rw [tDef_len] at hek
    have htk : (encL .no (tDef x)).take 11 = encL .no (tDef x) := List.take_of_length_le (by omega)
    simp -implicitDefEqProofs [hlt, ea, hek, htk, encDefS_len]
    refine callK_of (by simpa using hc) ?_
    simp -implicitDefEqProofs
    refine ⟨fun h => by rw [← hz, ed]; simp [h], fun h => ?_⟩
    unfold maxLen at *
    simp (disch := omega) only [wrap64]
    refine ⟨xs.length - (i + 1), by omega, _, St.le_of (by simp) (by simp [St.trunc, look, mapV, mapC]) rfl (by simp [St.trunc]), (hI _ _).2 ⟨i + 1, by omega, rfl, ?_, rfl⟩⟩
    rw [← hz, ed]; simp [h]
  · have e : i = xs.length := by omega
    subst e
    simp -implicitDefEqProofs
    rw [← hz]; simp [idxOf]
theorem c_EqualFuncValue (xs ys : List DValue) (g : FuncId) (K : List (List (List AC)))
    (h : ∀ x ∈ xs, ∀ y F, Ct Try.prog g [.agg (encL .no (tValue x)), .agg (encL .no (tValue y))] (F :: K) (.bool (eqB x y)) (F :: K)) :
    Ct Try.prog 133 [.sl .no xs.length (encR .no (tValueS xs)), .sl .no ys.length (encR .no (tValueS ys)), .fn g []] K (.bool (eqB xs ys)) K := by
  refine ct_fn { n0 := 10, ex := [15, 16, 17], tk := [29] } Try.func133 rfl (by kernel_rfl) (by kernel_rfl) rfl ?_
  simp -implicitDefEqProofs [Try.f133]
  intro h1 h2
  refine ⟨fun h => eqB_ne fun e => h (by rw [e]), fun hlen => ?_⟩
  intro h3
  obtain ⟨I, hI⟩ : ∃ I : Nat → St → Prop, ∀ m s, I m s ↔ ∃ i, i ≤ xs.length ∧ m = xs.length - i ∧ xs.take i = ys.take i ∧
    s = { env := [(0, .sl .no xs.length (encR .no (tValueS xs))), (1, .sl .no ys.length (encR .no (tValueS ys))), (2, .fn g []), (6, .bool false), (15, .sl .no xs.length (encR .no (tValueS xs))), (16, .int .i64 xs.length), (17, .int .i64 i)], loc := [], K := [] :: K } := ⟨_, fun _ _ => Iff.rfl⟩
  refine wC_loopI I xs.length ((hI _ _).2 ⟨0, by omega, rfl, by simp, rfl⟩) (St.le_of (by simp) (by simp) rfl rfl) ?_
  intro m s hs
  obtain ⟨i, hi, rfl, hz, rfl⟩ := (hI _ _).1 hs
  rcases Nat.lt_or_ge i xs.length with hlt | hge
  · obtain ⟨x, hx⟩ : ∃ x, xs[i]? = some x := ⟨_, List.getElem?_eq_getElem hlt⟩
    obtain ⟨z, hz2⟩ : ∃ x, ys[i]? = some x := ⟨_, List.getElem?_eq_getElem (by omega)⟩
    have ea := atValue (m := .no) hx
    have eb := atValue (m := .no) hz2
    have hek := encL_len (m := .no) (r := tValue x)
    have hek2 := encL_len (m := .no) (r := tValue z)
    rw [tValue_len] at hek hek2
    have hc := h x (List.mem_of_getElem? hx) z
    have htk : (encL .no (tValue x)).take 4 = encL .no (tValue x) := List.take_of_length_le (by omega)
    have htk2 : (encL .no (tValue z)).take 4 = encL .no (tValue z) := List.take_of_length_le (by omega)
    have hlt2 : i < ys.length := by omega
    simp -implicitDefEqProofs [hlt, hlt2, ea, eb, hek, hek2, htk, htk2, encValueS_len]
    refine callK_of (hc _) ?_
    simp -implicitDefEqProofs
    refine ⟨fun h3 => eqB_ne fun e => (by rw [e, hz2] at hx; cases hx; rw [eqB_self] at h3; cases h3), fun h3 => ?_⟩
    rw [eqB_iff] at h3
    subst h3
    unfold maxLen at *
    simp (disch := omega) only [wrap64]
    refine ⟨xs.length - (i + 1), by omega, _, St.le_of (by simp) (by simp [St.trunc, look, mapV, mapC, killP]) rfl (by simp [St.trunc, mapC]), (hI _ _).2 ⟨i + 1, by omega, rfl, ?_, rfl⟩⟩
    rw [List.take_add_one, List.take_add_one, hz, hx, hz2]
  · have e : i = xs.length := by omega
    subst e
    simp -implicitDefEqProofs
    refine (eqB_iff.2 ?_)
    rw [List.take_of_length_le (by omega), List.take_of_length_le (by omega)] at hz
    exact hz
theorem c_EqualFuncArg (xs ys : List DArg) (g : FuncId) (K : List (List (List AC)))
    (h : ∀ x ∈ xs, ∀ y F, Ct Try.prog g [.agg (encL .no (tArg x)), .agg (encL .no (tArg y))] (F :: K) (.bool (eqB x y)) (F :: K)) :
    Ct Try.prog 129 [.sl .no xs.length (encR .no (tArgS xs)), .sl .no ys.length (encR .no (tArgS ys)), .fn g []] K (.bool (eqB xs ys)) K := by
  refine ct_fn { n0 := 10, ex := [15, 16, 17], tk := [29] } Try.func129 rfl (by kernel_rfl) (by kernel_rfl) rfl ?_
  simp -implicitDefEqProofs [Try.f129]
  intro h1 h2
  refine ⟨fun h => eqB_ne fun e => h (by rw [e]), fun hlen => ?_⟩
  intro h3
  obtain ⟨I, hI⟩ : ∃ I : Nat → St → Prop, ∀ m s, I m s ↔ ∃ i, i ≤ xs.length ∧ m = xs.length - i ∧ xs.take i = ys.take i ∧
    s = { env := [(0, .sl .no xs.length (encR .no (tArgS xs))), (1, .sl .no ys.length (encR .no (tArgS ys))), (2, .fn g []), (6, .bool false), (15, .sl .no xs.length (encR .no (tArgS xs))), (16, .int .i64 xs.length), (17, .int .i64 i)], loc := [], K := [] :: K } := ⟨_, fun _ _ => Iff.rfl⟩
  refine wC_loopI I xs.length ((hI _ _).2 ⟨0, by omega, rfl, by simp, rfl⟩) (St.le_of (by simp) (by simp) rfl rfl) ?_
  intro m s hs
  obtain ⟨i, hi, rfl, hz, rfl⟩ := (hI _ _).1 hs
  rcases Nat.lt_or_ge i xs.length with hlt | hge
  · obtain ⟨x, hx⟩ : ∃ x, xs[i]? = some x := ⟨_, List.getElem?_eq_getElem hlt⟩
    obtain ⟨z, hz2⟩ : ∃ x, ys[i]? = some x := ⟨_, List.getElem?_eq_getElem (by omega)⟩
    have ea := atArg (m := .no) hx
    have eb := atArg (m := .no) hz2
    have hek := encL_len (m := .no) (r := tArg x)
    have hek2 := encL_len (m := .no) (r := tArg z)
    rw [tArg_len] at hek hek2
    have hc := h x (List.mem_of_getElem? hx) z
    have htk : (encL .no (tArg x)).take 5 = encL .no (tArg x) := List.take_of_length_le (by omega)
    have htk2 : (encL .no (tArg z)).take 5 = encL .no (tArg z) := List.take_of_length_le (by omega)
    have hlt2 : i < ys.length := by omega
    simp -implicitDefEqProofs [hlt, hlt2, ea, eb, hek, hek2, htk, htk2, encArgS_len]
    refine callK_of (hc _) ?_
    simp -implicitDefEqProofs
    refine ⟨fun h3 => eqB_ne fun e => (by rw [e, hz2] at hx; cases hx; rw [eqB_self] at h3; cases h3), fun h3 => ?_⟩
    rw [eqB_iff] at h3
    subst h3
    unfold maxLen at *
    simp (disch := omega) only [wrap64]
    refine ⟨xs.length - (i + 1), by omega, _, St.le_of (by simp) (by simp [St.trunc, look, mapV, mapC, killP]) rfl (by simp [St.trunc, mapC]), (hI _ _).2 ⟨i + 1, by omega, rfl, ?_, rfl⟩⟩
    rw [List.take_add_one, List.take_add_one, hz, hx, hz2]
  · have e : i = xs.length := by omega
    subst e
    simp -implicitDefEqProofs
    refine (eqB_iff.2 ?_)
    rw [List.take_of_length_le (by omega), List.take_of_length_le (by omega)] at hz
    exact hz
theorem c_EqualStr (xs ys : List Bs) (K : List (List (List AC))) : Ct Try.prog 132 [.sl .no xs.length (encR .no (tStrS xs)), .sl .no ys.length (encR .no (tStrS ys))] K (.bool (eqB xs ys)) K := by
  refine ct_fn { n0 := 6, ex := [12, 13], tk := [] } Try.func132 rfl (by kernel_rfl) (by kernel_rfl) rfl ?_
  simp -implicitDefEqProofs [Try.f132]
  intro h1 h2
  refine ⟨fun h => eqB_ne fun e => h (by rw [e]), fun hlen => ?_⟩
  intro h3
  obtain ⟨I, hI⟩ : ∃ I : Nat → St → Prop, ∀ m s, I m s ↔ ∃ i, i ≤ xs.length ∧ m = xs.length - i ∧ xs.take i = ys.take i ∧
    s = { env := [(0, .sl .no xs.length (encR .no (tStrS xs))), (1, .sl .no ys.length (encR .no (tStrS ys))), (4, .bool false), (12, .int .i64 xs.length), (13, .int .i64 i)], loc := [], K := [] :: K } := ⟨_, fun _ _ => Iff.rfl⟩
  refine wC_loopI I xs.length ((hI _ _).2 ⟨0, by omega, rfl, by simp, rfl⟩) (St.le_of (by simp) (by simp) rfl rfl) ?_
  intro m s hs
  obtain ⟨i, hi, rfl, hz, rfl⟩ := (hI _ _).1 hs
  rcases Nat.lt_or_ge i xs.length with hlt | hge
  · obtain ⟨x, hx⟩ : ∃ x, xs[i]? = some x := ⟨_, List.getElem?_eq_getElem hlt⟩
    obtain ⟨z, hz2⟩ : ∃ x, ys[i]? = some x := ⟨_, List.getElem?_eq_getElem (by omega)⟩
    have ea := atStr (m := .no) hx
    have eb := atStr (m := .no) hz2
    have hlt2 : i < ys.length := by omega
    simp only [Nat.mul_one] at ea eb
    simp -implicitDefEqProofs [hlt, hlt2, ea, eb, encL, encT, encStrS_len]
    refine wRun_draw false rfl (by decide +kernel) ?_
    simp -implicitDefEqProofs [hlt, hlt2, ea, eb, encL, encT, encStrS_len]
    refine ⟨fun h3 => eqB_ne fun e => h3 (by rw [e, hz2] at hx; cases hx; rfl), fun h3 => ?_⟩
    unfold maxLen at *
    simp (disch := omega) only [wrap64]
    refine ⟨xs.length - (i + 1), by omega, _, St.le_of (by simp) (by simp [St.trunc, look, mapV, mapC, killP]) rfl (by simp [St.trunc, mapC]), (hI _ _).2 ⟨i + 1, by omega, rfl, ?_, rfl⟩⟩
    rw [List.take_add_one, List.take_add_one, hz, hx, hz2, h3]
  · have e : i = xs.length := by omega
    subst e
    simp -implicitDefEqProofs
    refine (eqB_iff.2 ?_)
    rw [List.take_of_length_le (by omega), List.take_of_length_le (by omega)] at hz
    exact hz
end Go.Proofs.Ytcgkcbmhjbbjmaa.Abs

