/- PRINTED by lib.py: functions of Go's package slices at the element types. No condition. -/
import Derived.Test.YthagllbnkbahnaaGreatFStr
import Derived.Test.YthagllbnkbahnaaGreatLend
set_option linter.unusedVariables false
set_option linter.unusedSimpArgs false
namespace Go.Proofs.YthagllbnkbahnaaGreat.Abs
open Go
set_option maxHeartbeats 1000000
set_option maxRecDepth 100000
/-- Where the first element that p takes stands. -/
def idxOf {α : Type} (p : α → Bool) : List α → Int → Int
  | [], _ => -1
  | x :: xs, i => if p x then i else idxOf p xs (i + 1)
theorem idxOf_drop {α : Type} {p : α → Bool} {xs : List α} {i : Nat} {x : α} (h : xs[i]? = some x) (k : Int) : idxOf p (xs.drop i) k = if p x then k else idxOf p (xs.drop (i + 1)) (k + 1) := by
  obtain ⟨hlt, rfl⟩ := List.getElem?_eq_some_iff.1 h
  rw [List.drop_eq_getElem_cons hlt]; rfl
theorem idxOf_any {α : Type} {p : α → Bool} {xs : List α} : ∀ {k : Int}, 0 ≤ k → (0 ≤ idxOf p xs k ↔ xs.any p = true) := by
  induction xs with
  | nil => intro k h; simp [idxOf]
  | cons x xs ih =>
    intro k h
    simp only [idxOf, List.any_cons, Bool.or_eq_true]
    by_cases hp : p x = true
    · simp [hp, h]
    · simp only [hp, Bool.false_eq_true, if_false, false_or]; exact ih (by omega)
theorem idxOf_neg {α : Type} {p : α → Bool} {xs : List α} : ∀ {k : Int}, 0 ≤ k → (idxOf p xs k < 0 ↔ xs.any p = false) := by
  intro k h
  have := idxOf_any (p := p) (xs := xs) h
  cases hx : xs.any p <;> simp [hx] at this <;> simp <;> omega
theorem idxOf_le {α : Type} {p : α → Bool} {xs : List α} : ∀ {k : Int}, 0 ≤ k → -1 ≤ idxOf p xs k ∧ idxOf p xs k < k + xs.length ∨ xs = [] ∧ idxOf p xs k = -1 := by
  induction xs with
  | nil => intro k h; exact .inr ⟨rfl, rfl⟩
  | cons x xs ih =>
    intro k h
    left
    simp only [idxOf, List.length_cons]
    split
    · omega
    · rcases ih (k := k + 1) (by omega) with h1 | ⟨_, h1⟩ <;> omega
theorem c_IndexFuncDef (xs : List DDef) (p : DDef → Bool) (g : FuncId) (caps : List AC) (K : List (List (List AC)))
    (h : ∀ x ∈ xs, Ct Tryz.prog g (.agg (encL .no (tDef x)) :: caps.map (liftP 1)) ([] :: K) (.bool (p x)) ([] :: K)) :
    Ct Tryz.prog 142 [.sl .no xs.length (encR .no (tDefS xs)), .fn g caps] K (.int .i64 (idxOf p xs 0)) K := by
  refine ct_fn { n0 := 6, ex := [7, 8], tk := [16, 17] } Tryz.func142 rfl (by kernel_rfl) (by kernel_rfl) rfl ?_
  simp -implicitDefEqProofs [Tryz.f142]
  intro h1
  obtain ⟨I, hI⟩ : ∃ I : Nat → St → Prop, ∀ m s, I m s ↔ ∃ i, i ≤ xs.length ∧ m = xs.length - i ∧ idxOf p (xs.drop i) i = idxOf p xs 0 ∧
    s = { env := [(0, .sl .no xs.length (encR .no (tDefS xs))), (1, .fn g (caps.map (liftP 1))), (4, .int .i64 0), (7, .int .i64 xs.length), (8, .int .i64 i)], loc := [], K := [] :: K } := ⟨_, fun _ _ => Iff.rfl⟩
  refine wC_loopI I xs.length ((hI _ _).2 ⟨0, by omega, rfl, rfl, rfl⟩) (St.le_of (by simp) (by simp) rfl rfl) ?_
  intro m s hs
  obtain ⟨i, hi, rfl, hz, rfl⟩ := (hI _ _).1 hs
  rcases Nat.lt_or_ge i xs.length with hlt | hge
  · obtain ⟨x, hx⟩ : ∃ x, xs[i]? = some x := ⟨_, List.getElem?_eq_getElem hlt⟩
    have ea := atDef (m := .no) hx
    have ed := idxOf_drop (p := p) hx i
    have hc := h x (List.mem_of_getElem? hx)
    have hek := encL_len (m := .no) (r := tDef x)
    rw [tDef_len] at hek
    have htk : (encL .no (tDef x)).take 11 = encL .no (tDef x) := List.take_of_length_le (by omega)
    simp -implicitDefEqProofs [hlt, ea, hek, htk, encDefS_len]
    refine callK_of (by simpa using hc) ?_
    simp -implicitDefEqProofs
    refine ⟨fun h => by rw [← hz, ed]; simp [h], fun h => ?_⟩
    unfold maxLen at *
    simp (disch := omega) only [wrap64]
    refine ⟨xs.length - (i + 1), by omega, _, St.le_of (by simp) (by simp [St.trunc, look, mapV, mapC]) rfl (by simp [St.trunc]), (hI _ _).2 ⟨i + 1, by omega, rfl, ?_, rfl⟩⟩
    rw [← hz, ed]; simp [h]
  · have e : i = xs.length := by omega
    subst e
    simp -implicitDefEqProofs
    rw [← hz]; simp [idxOf]
theorem c_IndexFuncInDef (xs : List DInDef) (p : DInDef → Bool) (g : FuncId) (caps : List AC) (K : List (List (List AC)))
    (h : ∀ x ∈ xs, Ct Tryz.prog g (.agg (encL .no (tInDef x)) :: caps.map (liftP 1)) ([] :: K) (.bool (p x)) ([] :: K)) :
    Ct Tryz.prog 137 [.sl .no xs.length (encR .no (tInDefS xs)), .fn g caps] K (.int .i64 (idxOf p xs 0)) K := by
  refine ct_fn { n0 := 6, ex := [7, 8], tk := [16, 17] } Tryz.func137 rfl (by kernel_rfl) (by kernel_rfl) rfl ?_
  simp -implicitDefEqProofs [Tryz.f137]
  intro h1
  obtain ⟨I, hI⟩ : ∃ I : Nat → St → Prop, ∀ m s, I m s ↔ ∃ i, i ≤ xs.length ∧ m = xs.length - i ∧ idxOf p (xs.drop i) i = idxOf p xs 0 ∧
    s = { env := [(0, .sl .no xs.length (encR .no (tInDefS xs))), (1, .fn g (caps.map (liftP 1))), (4, .int .i64 0), (7, .int .i64 xs.length), (8, .int .i64 i)], loc := [], K := [] :: K } := ⟨_, fun _ _ => Iff.rfl⟩
  refine wC_loopI I xs.length ((hI _ _).2 ⟨0, by omega, rfl, rfl, rfl⟩) (St.le_of (by simp) (by simp) rfl rfl) ?_
  intro m s hs
  obtain ⟨i, hi, rfl, hz, rfl⟩ := (hI _ _).1 hs
  rcases Nat.lt_or_ge i xs.length with hlt | hge
  · obtain ⟨x, hx⟩ : ∃ x, xs[i]? = some x := ⟨_, List.getElem?_eq_getElem hlt⟩
    have ea := atInDef (m := .no) hx
    have ed := idxOf_drop (p := p) hx i
    have hc := h x (List.mem_of_getElem? hx)
    have hek := encL_len (m := .no) (r := tInDef x)
    rw [tInDef_len] at hek
    have htk : (encL .no (tInDef x)).take 10 = encL .no (tInDef x) := List.take_of_length_le (by omega)
    simp -implicitDefEqProofs [hlt, ea, hek, htk, encInDefS_len]
    refine callK_of (by simpa using hc) ?_
    simp -implicitDefEqProofs
    refine ⟨fun h => by rw [← hz, ed]; simp [h], fun h => ?_⟩
    unfold maxLen at *
    simp (disch := omega) only [wrap64]
    refine ⟨xs.length - (i + 1), by omega, _, St.le_of (by simp) (by simp [St.trunc, look, mapV, mapC]) rfl (by simp [St.trunc]), (hI _ _).2 ⟨i + 1, by omega, rfl, ?_, rfl⟩⟩
    rw [← hz, ed]; simp [h]
  · have e : i = xs.length := by omega
    subst e
    simp -implicitDefEqProofs
    rw [← hz]; simp [idxOf]
theorem c_IndexFuncFieldDef (xs : List DFieldDef) (p : DFieldDef → Bool) (g : FuncId) (caps : List AC) (K : List (List (List AC)))
    (h : ∀ x ∈ xs, Ct Tryz.prog g (.agg (encL .no (tFieldDef x)) :: caps.map (liftP 1)) ([] :: K) (.bool (p x)) ([] :: K)) :
    Ct Tryz.prog 110 [.sl .no xs.length (encR .no (tFieldDefS xs)), .fn g caps] K (.int .i64 (idxOf p xs 0)) K := by
  refine ct_fn { n0 := 6, ex := [7, 8], tk := [16, 17] } Tryz.func110 rfl (by kernel_rfl) (by kernel_rfl) rfl ?_
  simp -implicitDefEqProofs [Tryz.f110]
  intro h1
  obtain ⟨I, hI⟩ : ∃ I : Nat → St → Prop, ∀ m s, I m s ↔ ∃ i, i ≤ xs.length ∧ m = xs.length - i ∧ idxOf p (xs.drop i) i = idxOf p xs 0 ∧
    s = { env := [(0, .sl .no xs.length (encR .no (tFieldDefS xs))), (1, .fn g (caps.map (liftP 1))), (4, .int .i64 0), (7, .int .i64 xs.length), (8, .int .i64 i)], loc := [], K := [] :: K } := ⟨_, fun _ _ => Iff.rfl⟩
  refine wC_loopI I xs.length ((hI _ _).2 ⟨0, by omega, rfl, rfl, rfl⟩) (St.le_of (by simp) (by simp) rfl rfl) ?_
  intro m s hs
  obtain ⟨i, hi, rfl, hz, rfl⟩ := (hI _ _).1 hs
  rcases Nat.lt_or_ge i xs.length with hlt | hge
  · obtain ⟨x, hx⟩ : ∃ x, xs[i]? = some x := ⟨_, List.getElem?_eq_getElem hlt⟩
    have ea := atFieldDef (m := .no) hx
    have ed := idxOf_drop (p := p) hx i
    have hc := h x (List.mem_of_getElem? hx)
    have hek := encL_len (m := .no) (r := tFieldDef x)
    rw [tFieldDef_len] at hek
    have htk : (encL .no (tFieldDef x)).take 6 = encL .no (tFieldDef x) := List.take_of_length_le (by omega)
    simp -implicitDefEqProofs [hlt, ea, hek, htk, encFieldDefS_len]
    refine callK_of (by simpa using hc) ?_
    simp -implicitDefEqProofs
    refine ⟨fun h => by rw [← hz, ed]; simp [h], fun h => ?_⟩
    unfold maxLen at *
    simp (disch := omega) only [wrap64]
    refine ⟨xs.length - (i + 1), by omega, _, St.le_of (by simp) (by simp [St.trunc, look, mapV, mapC]) rfl (by simp [St.trunc]), (hI _ _).2 ⟨i + 1, by omega, rfl, ?_, rfl⟩⟩
    rw [← hz, ed]; simp [h]
  · have e : i = xs.length := by omega
    subst e
    simp -implicitDefEqProofs
    rw [← hz]; simp [idxOf]
end Go.Proofs.YthagllbnkbahnaaGreat.Abs

