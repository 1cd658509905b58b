/- Json: what is right, what is written: plain functions and laws. No condition. -/
import Derived.Test.YthagllbnkbahnaaDoorTxF
import Derived.Test.YthagllbnkbahnaaDoorLib
set_option linter.unusedVariables false
set_option linter.unusedSimpArgs false
namespace Go.Proofs.YthagllbnkbahnaaDoor.Abs
open Go
set_option maxRecDepth 100000
def noEsc (s : Bs) : Bool := decide (escaped s = [])
theorem noEsc_eq (s : Bs) : noEsc s = decide (escaped s = []) := by unfold noEsc; rfl
def anyNoEsc (l : List Bs) : Bool := l.any noEsc
/-- What a Json asks of itself, its parts aside. -/
def jHead (k : Int) (t : Bs) (n : Nat) (names : List Bs) : Bool :=
  if k = 1 ∨ k = 2 ∨ k = 3 then decide (n = 0) && decide (names.length = 0) && decide (t = []) else
  if k = 4 then decide (n = 0) && decide (names.length = 0) && (intOk t || floatOk t) else
  if k = 5 then decide (n = 0) && decide (names.length = 0) && !noEsc t else
  if k = 6 then decide (names.length = 0) && decide (t = []) else
  if k = 7 then decide (names.length = n) && !anyNoEsc names && decide (t = []) else false
mutual
def jOk : DJson → Int → Bool
  | ⟨k, t, items, names⟩, d => jHead k t items.length names && (if k = 6 ∨ k = 7 then decide (0 < d) && jOkS items (d - 1) else true)
def jOkS : List DJson → Int → Bool
  | [], _ => true
  | x :: xs, d => jOk x d && jOkS xs d
end
theorem jOkS_all {xs : List DJson} {d : Int} : jOkS xs d = !(xs.any fun x => !jOk x d) := by
  induction xs with
  | nil => rfl
  | cons x xs ih => simp only [jOkS, ih, List.any_cons]; cases jOk x d <;> simp
theorem jOkS_get {xs : List DJson} {d : Int} (h : jOkS xs d = true) {i : Nat} {x : DJson} (hx : xs[i]? = some x) : jOk x d = true := by
  induction xs generalizing i with
  | nil => simp at hx
  | cons y ys ih =>
    simp only [jOkS, Bool.and_eq_true] at h
    cases i with
    | zero => simp at hx; subst hx; exact h.1
    | succ i => exact ih h.2 (by simpa using hx)
theorem jOkS_drop {xs : List DJson} {d : Int} {i : Nat} {x : DJson} (h : xs[i]? = some x) : jOkS (xs.drop i) d = (jOk x d && jOkS (xs.drop (i + 1)) d) := by
  obtain ⟨hlt, rfl⟩ := List.getElem?_eq_some_iff.1 h
  rw [List.drop_eq_getElem_cons hlt]; rfl
theorem anyNoEsc_drop {xs : List Bs} {i : Nat} {x : Bs} (h : xs[i]? = some x) : anyNoEsc (xs.drop i) = (noEsc x || anyNoEsc (xs.drop (i + 1))) := by
  obtain ⟨hlt, rfl⟩ := List.getElem?_eq_some_iff.1 h
  rw [List.drop_eq_getElem_cons hlt]; rfl
theorem szJson_get {xs : List DJson} {i : Nat} {x : DJson} (h : xs[i]? = some x) : szL (tJson x) ≤ szR (tJsonS xs) := by
  have h1 := szR_get (tJsonS_get h)
  have h2 := szR_take_le (rs := tJsonS xs) (i + 1)
  omega
theorem szStr_get {xs : List Bs} {i : Nat} {x : Bs} (h : xs[i]? = some x) : x.length ≤ szR (tStrS xs) := by
  have h1 := szR_get (tStrS_get h)
  have h2 := szR_take_le (rs := tStrS xs) (i + 1)
  simp only [szL, szT] at h1
  omega
/-- What is written. -/
def jOpen (k : Int) : UInt8 := if k = 7 then 123 else 91
def jShut (k : Int) : UInt8 := if k = 7 then 125 else 93
mutual
def sayJ : DJson → Bs
  | ⟨k, t, items, names⟩ => if k = 1 then [110, 117, 108, 108] else if k = 2 then [116, 114, 117, 101] else if k = 3 then [102, 97, 108, 115, 101] else if k = 4 then t else if k = 5 then escaped t else
    jOpen k :: (sayJS k items names true ++ [jShut k])
def sayJS : Int → List DJson → List Bs → Bool → Bs
  | _, [], _, _ => []
  | k, x :: xs, names, first => (if first then [] else [44]) ++ (if k = 7 then escaped (names.headD []) ++ [58] else []) ++ sayJ x ++ sayJS k xs names.tail false
end
theorem sayJS_take {k : Int} : ∀ {xs : List DJson} {names : List Bs} {b : Bool} {i : Nat} {x : DJson}, xs[i]? = some x →
    sayJS k (xs.take (i + 1)) names b = sayJS k (xs.take i) names b ++ ((if i = 0 ∧ b = true then [] else [44]) ++ (if k = 7 then escaped (names[i]?.getD []) ++ [58] else []) ++ sayJ x) := by
  intro xs; induction xs with
  | nil => intro names b i x h; simp at h
  | cons y ys ih =>
    intro names b i x h
    cases i with
    | zero =>
      simp at h; subst h
      cases names <;> cases b <;> simp [sayJS]
    | succ i =>
      simp only [List.take_succ_cons, sayJS]
      rw [ih (by simpa using h)]
      cases names <;> simp
theorem sayJS_take_len {k : Int} : ∀ (xs : List DJson) (names : List Bs) (b : Bool) (i : Nat), (sayJS k (xs.take i) names b).length ≤ (sayJS k xs names b).length := by
  intro xs
  induction xs with
  | nil => intro names b i; simp
  | cons x xs ih =>
    intro names b i
    cases i with
    | zero => simp [sayJS]
    | succ i =>
      have := ih names.tail false i
      simp only [List.take_succ_cons, sayJS, List.length_append]
      omega
def jSize : DJson → Nat := fun j => szL (tJson j)
theorem sayJ_len_rec : ∀ N : Nat, (∀ j : DJson, SizeOf.sizeOf j < N → (sayJ j).length ≤ 1500 + 4000 * szL (tJson j)) ∧
    (∀ (xs : List DJson) (k : Int) (names : List Bs) (b : Bool), SizeOf.sizeOf xs < N → (sayJS k xs names b).length ≤ 4000 * xs.length + 4000 * szR (tJsonS xs)) := by
  intro N
  induction N with
  | zero => exact ⟨fun j h => absurd h (by omega), fun xs k names b h => absurd h (by omega)⟩
  | succ N ih =>
    constructor
    · intro j hN
      obtain ⟨k, t, items, names⟩ := j
      have h1 := ih.2 items k names true (by simp at hN; omega)
      have h2 := escaped_len t
      simp only [sayJ, tJson, szL, szT, tJsonS_len, tStrS_len]
      repeat' split
      all_goals ((try simp only [List.length_cons, List.length_append, List.length_nil]); omega)
    · intro xs k names b hN
      cases xs with
      | nil => simp [sayJS]
      | cons x xs =>
        have h1 := ih.1 x (by simp at hN; omega)
        have h2 := ih.2 xs k names.tail false (by simp at hN; omega)
        have h3 := escaped_len (names.headD [])
        simp only [sayJS, tJsonS, szR, List.length_append, List.length_cons]
        split <;> split <;> (simp only [List.length_append, List.length_cons, List.length_nil]; omega)
theorem sayJ_len (j : DJson) : (sayJ j).length ≤ 1500 + 4000 * szL (tJson j) := (sayJ_len_rec _).1 j (Nat.lt_succ_self _)
theorem sayJS_len (xs : List DJson) (k : Int) (names : List Bs) (b : Bool) : (sayJS k xs names b).length ≤ 4000 * xs.length + 4000 * szR (tJsonS xs) := (sayJ_len_rec _).2 xs k names b (Nat.lt_succ_self _)
theorem tJsonS_szTake (xs : List DJson) (i : Nat) : szR (tJsonS (xs.take i)) ≤ szR (tJsonS xs) := by rw [← tJsonS_take]; exact szR_take_le _
def jsonText (j : DJson) : Bs := if jOk j 20 = false then [] else if 60000 < (sayJ j).length then [] else sayJ j
end Go.Proofs.YthagllbnkbahnaaDoor.Abs
