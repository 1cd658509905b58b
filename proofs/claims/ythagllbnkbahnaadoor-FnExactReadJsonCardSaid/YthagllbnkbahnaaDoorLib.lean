/- PRINTED by lib.py: functions of Go's package slices at the element types. No condition. -/
import Derived.Test.YthagllbnkbahnaaDoorFStr
import Derived.Test.YthagllbnkbahnaaDoorLend
set_option linter.unusedVariables false
set_option linter.unusedSimpArgs false
namespace Go.Proofs.YthagllbnkbahnaaDoor.Abs
open Go
set_option maxHeartbeats 1000000
set_option maxRecDepth 100000
/-- Where the first element that p takes stands. -/
def idxOf {α : Type} (p : α → Bool) : List α → Int → Int
  | [], _ => -1
  | x :: xs, i => if p x then i else idxOf p xs (i + 1)
theorem idxOf_drop {α : Type} {p : α → Bool} {xs : List α} {i : Nat} {x : α} (h : xs[i]? = some x) (k : Int) : idxOf p (xs.drop i) k = if p x then k else idxOf p (xs.drop (i + 1)) (k + 1) := by
  obtain ⟨hlt, rfl⟩ := List.getElem?_eq_some_iff.1 h
  rw [List.drop_eq_getElem_cons hlt]; rfl
theorem idxOf_any {α : Type} {p : α → Bool} {xs : List α} : ∀ {k : Int}, 0 ≤ k → (0 ≤ idxOf p xs k ↔ xs.any p = true) := by
  induction xs with
  | nil => intro k h; simp [idxOf]
  | cons x xs ih =>
    intro k h
    simp only [idxOf, List.any_cons, Bool.or_eq_true]
    by_cases hp : p x = true
    · simp [hp, h]
    · simp only [hp, Bool.false_eq_true, if_false, false_or]; exact ih (by omega)
theorem idxOf_neg {α : Type} {p : α → Bool} {xs : List α} : ∀ {k : Int}, 0 ≤ k → (idxOf p xs k < 0 ↔ xs.any p = false) := by
  intro k h
  have := idxOf_any (p := p) (xs := xs) h
  cases hx : xs.any p <;> simp [hx] at this <;> simp <;> omega
theorem idxOf_le {α : Type} {p : α → Bool} {xs : List α} : ∀ {k : Int}, 0 ≤ k → -1 ≤ idxOf p xs k ∧ idxOf p xs k < k + xs.length ∨ xs = [] ∧ idxOf p xs k = -1 := by
  induction xs with
  | nil => intro k h; exact .inr ⟨rfl, rfl⟩
  | cons x xs ih =>
    intro k h
    left
    simp only [idxOf, List.length_cons]
    split
    · omega
    · rcases ih (k := k + 1) (by omega) with h1 | ⟨_, h1⟩ <;> omega
theorem c_IndexFuncStr (xs : List Bs) (p : Bs → Bool) (g : FuncId) (caps : List AC) (K : List (List (List AC)))
    (h : ∀ x ∈ xs, Ct Tryd.prog g (.str x :: caps.map (liftP 1)) ([] :: K) (.bool (p x)) ([] :: K)) :
    Ct Tryd.prog 63 [.sl .no xs.length (encR .no (tStrS xs)), .fn g caps] K (.int .i64 (idxOf p xs 0)) K := by
  refine ct_fn { n0 := 6, ex := [7, 8], tk := [16, 17] } Tryd.func63 rfl (by kernel_rfl) (by kernel_rfl) rfl ?_
  simp -implicitDefEqProofs [Tryd.f63]
  intro h1
  obtain ⟨I, hI⟩ : ∃ I : Nat → St → Prop, ∀ m s, I m s ↔ ∃ i, i ≤ xs.length ∧ m = xs.length - i ∧ idxOf p (xs.drop i) i = idxOf p xs 0 ∧
    s = { env := [(0, .sl .no xs.length (encR .no (tStrS xs))), (1, .fn g (caps.map (liftP 1))), (4, .int .i64 0), (7, .int .i64 xs.length), (8, .int .i64 i)], loc := [], K := [] :: K } := ⟨_, fun _ _ => Iff.rfl⟩
  refine wC_loopI I xs.length ((hI _ _).2 ⟨0, by omega, rfl, rfl, rfl⟩) (St.le_of (by simp) (by simp) rfl rfl) ?_
  intro m s hs
  obtain ⟨i, hi, rfl, hz, rfl⟩ := (hI _ _).1 hs
  rcases Nat.lt_or_ge i xs.length with hlt | hge
  · obtain ⟨x, hx⟩ : ∃ x, xs[i]? = some x := ⟨_, List.getElem?_eq_getElem hlt⟩
    have ea := atStr (m := .no) hx
    have ed := idxOf_drop (p := p) hx i
    have hc := h x (List.mem_of_getElem? hx)
    simp only [Nat.mul_one] at ea
    simp -implicitDefEqProofs [hlt, ea, encL, encT, encStrS_len]
    refine callK_of (by simpa using hc) ?_
    simp -implicitDefEqProofs
    refine ⟨fun h => by rw [← hz, ed]; simp [h], fun h => ?_⟩
    unfold maxLen at *
    simp (disch := omega) only [wrap64]
    refine ⟨xs.length - (i + 1), by omega, _, St.le_of (by simp) (by simp [St.trunc, look, mapV, mapC]) rfl (by simp [St.trunc]), (hI _ _).2 ⟨i + 1, by omega, rfl, ?_, rfl⟩⟩
    rw [← hz, ed]; simp [h]
  · have e : i = xs.length := by omega
    subst e
    simp -implicitDefEqProofs
    rw [← hz]; simp [idxOf]
theorem c_ContainsFuncStr (xs : List Bs) (p : Bs → Bool) (g : FuncId) (caps : List AC) (K : List (List (List AC)))
    (h : ∀ x ∈ xs, Ct Tryd.prog g (.str x :: caps.map (liftP 1 ∘ liftP 1)) ([] :: [] :: K) (.bool (p x)) ([] :: [] :: K)) :
    Ct Tryd.prog 47 [.sl .no xs.length (encR .no (tStrS xs)), .fn g caps] K (.bool (xs.any p)) K := by
  refine ct_fn { n0 := 5, ex := [], tk := [7] } Tryd.func47 rfl (by kernel_rfl) (by kernel_rfl) rfl ?_
  simp -implicitDefEqProofs [Tryd.f47]
  refine callK_of (c_IndexFuncStr xs p g (caps.map (liftP 1)) _ (fun x hx => by simpa using h x hx)) ?_
  simp -implicitDefEqProofs
  have := idxOf_any (p := p) (xs := xs) (k := 0) (by omega)
  by_cases hp : 0 ≤ idxOf p xs 0
  · simp only [hp, decide_true]; exact this.1 hp
  · simp only [hp, decide_false]; cases hx : xs.any p
    · rfl
    · exact absurd (this.2 hx) hp
theorem c_IndexFuncJson (xs : List DJson) (p : DJson → Bool) (g : FuncId) (caps : List AC) (K : List (List (List AC)))
    (h : ∀ x ∈ xs, Ct Tryd.prog g (.agg (encL .no (tJson x)) :: caps.map (liftP 1)) ([] :: K) (.bool (p x)) ([] :: K)) :
    Ct Tryd.prog 64 [.sl .no xs.length (encR .no (tJsonS xs)), .fn g caps] K (.int .i64 (idxOf p xs 0)) K := by
  refine ct_fn { n0 := 6, ex := [7, 8], tk := [16, 17] } Tryd.func64 rfl (by kernel_rfl) (by kernel_rfl) rfl ?_
  simp -implicitDefEqProofs [Tryd.f64]
  intro h1
  obtain ⟨I, hI⟩ : ∃ I : Nat → St → Prop, ∀ m s, I m s ↔ ∃ i, i ≤ xs.length ∧ m = xs.length - i ∧ idxOf p (xs.drop i) i = idxOf p xs 0 ∧
    s = { env := [(0, .sl .no xs.length (encR .no (tJsonS xs))), (1, .fn g (caps.map (liftP 1))), (4, .int .i64 0), (7, .int .i64 xs.length), (8, .int .i64 i)], loc := [], K := [] :: K } := ⟨_, fun _ _ => Iff.rfl⟩
  refine wC_loopI I xs.length ((hI _ _).2 ⟨0, by omega, rfl, rfl, rfl⟩) (St.le_of (by simp) (by simp) rfl rfl) ?_
  intro m s hs
  obtain ⟨i, hi, rfl, hz, rfl⟩ := (hI _ _).1 hs
  rcases Nat.lt_or_ge i xs.length with hlt | hge
  · obtain ⟨x, hx⟩ : ∃ x, xs[i]? = some x := ⟨_, List.getElem?_eq_getElem hlt⟩
    have ea := atJson (m := .no) hx
    have ed := idxOf_drop (p := p) hx i
    have hc := h x (List.mem_of_getElem? hx)
    have hek := encL_len (m := .no) (r := tJson x)
    rw [tJson_len] at hek
    have htk : (encL .no (tJson x)).take 4 = encL .no (tJson x) := List.take_of_length_le (by omega)
    simp -implicitDefEqProofs [hlt, ea, hek, htk, encJsonS_len]
    refine callK_of (by simpa using hc) ?_
    simp -implicitDefEqProofs
    refine ⟨fun h => by rw [← hz, ed]; simp [h], fun h => ?_⟩
    unfold maxLen at *
    simp (disch := omega) only [wrap64]
    refine ⟨xs.length - (i + 1), by omega, _, St.le_of (by simp) (by simp [St.trunc, look, mapV, mapC]) rfl (by simp [St.trunc]), (hI _ _).2 ⟨i + 1, by omega, rfl, ?_, rfl⟩⟩
    rw [← hz, ed]; simp [h]
  · have e : i = xs.length := by omega
    subst e
    simp -implicitDefEqProofs
    rw [← hz]; simp [idxOf]
theorem c_ContainsFuncJson (xs : List DJson) (p : DJson → Bool) (g : FuncId) (caps : List AC) (K : List (List (List AC)))
    (h : ∀ x ∈ xs, Ct Tryd.prog g (.agg (encL .no (tJson x)) :: caps.map (liftP 1 ∘ liftP 1)) ([] :: [] :: K) (.bool (p x)) ([] :: [] :: K)) :
    Ct Tryd.prog 49 [.sl .no xs.length (encR .no (tJsonS xs)), .fn g caps] K (.bool (xs.any p)) K := by
  refine ct_fn { n0 := 5, ex := [], tk := [7] } Tryd.func49 rfl (by kernel_rfl) (by kernel_rfl) rfl ?_
  simp -implicitDefEqProofs [Tryd.f49]
  refine callK_of (c_IndexFuncJson xs p g (caps.map (liftP 1)) _ (fun x hx => by simpa using h x hx)) ?_
  simp -implicitDefEqProofs
  have := idxOf_any (p := p) (xs := xs) (k := 0) (by omega)
  by_cases hp : 0 ≤ idxOf p xs 0
  · simp only [hp, decide_true]; exact this.1 hp
  · simp only [hp, decide_false]; cases hx : xs.any p
    · rfl
    · exact absurd (this.2 hx) hp
end Go.Proofs.YthagllbnkbahnaaDoor.Abs

