/- Reading a Json: plain functions and laws. No condition. -/
import Derived.Test.YthagllbnkbahnaaDoorTxJP
import Derived.Test.YthagllbnkbahnaaDoorTxV
set_option linter.unusedVariables false
set_option linter.unusedSimpArgs false
namespace Go.Proofs.YthagllbnkbahnaaDoor.Abs
open Go
set_option maxRecDepth 100000
def isBl (b : UInt8) : Bool := decide (b = 32) || decide (b = 9) || decide (b = 10) || decide (b = 13)
/-- What a number may bear, after the program; after the reference. -/
def isNb (b : UInt8) : Bool := isLet b || isFig b || decide (b = 46) || decide (b = 43) || decide (b = 45)
def isWd (b : UInt8) : Bool := isLet b || isUn b || isFig b || decide (b = 46) || decide (b = 43) || decide (b = 45)
def runP (p : UInt8 → Bool) (l : Bs) : Nat := (l.takeWhile p).length
theorem runP_cons {p : UInt8 → Bool} {b : UInt8} {l : Bs} : runP p (b :: l) = if p b then runP p l + 1 else 0 := by
  unfold runP; rw [List.takeWhile_cons]; split <;> simp
theorem runP_le {p : UInt8 → Bool} {l : Bs} : runP p l ≤ l.length := (List.takeWhile_prefix _).length_le
def pass (s : Bs) (a : Nat) : Nat := a + runP isBl (s.drop a)
theorem pass_le {s : Bs} {a : Nat} (h : a ≤ s.length) : pass s a ≤ s.length := by
  have := runP_le (p := isBl) (l := s.drop a)
  rw [List.length_drop] at this
  unfold pass; omega
theorem pass_ge (s : Bs) (a : Nat) : a ≤ pass s a := by unfold pass; omega
theorem pass_step {s : Bs} {a : Nat} {b : UInt8} (h : s[a]? = some b) : pass s a = if isBl b then pass s (a + 1) else a := by
  unfold pass; rw [drop_cons h, runP_cons]; split <;> omega
theorem pass_end {s : Bs} {a : Nat} (h : s.length ≤ a) : pass s a = a := by
  unfold pass; rw [drop_nil h]; simp [runP]
theorem pass_at {s : Bs} {a : Nat} {b : UInt8} (h : s[pass s a]? = some b) : isBl b = false := by
  unfold pass at h
  generalize hd : s.drop a = l at h
  have h2 : l[runP isBl l]? = some b := by rw [← h, ← hd, List.getElem?_drop]
  clear h hd
  induction l with
  | nil => simp at h2
  | cons c l ih =>
    rw [runP_cons] at h2
    split at h2
    · exact ih (by simpa using h2)
    · next hc => simp at h2; subst h2; simpa using hc
theorem pass_pass (s : Bs) (a : Nat) : pass s (pass s a) = pass s a := by
  rcases Nat.lt_or_ge (pass s a) s.length with h | h
  · obtain ⟨b, hb⟩ : ∃ b, s[pass s a]? = some b := ⟨_, List.getElem?_eq_getElem h⟩
    rw [pass_step hb, pass_at hb]; simp
  · exact pass_end h
def zJ : DJson := ⟨0, [], [], []⟩
def nullW : Bs := [110, 117, 108, 108]
def trueW : Bs := [116, 114, 117, 101]
def falseW : Bs := [102, 97, 108, 115, 101]
/-- A text in quotes that begins at a place, and the place behind it. -/
def rdStr (s : Bs) (a : Nat) : Option (Bs × Nat) :=
  if strEnd s a < 0 then none else
  if longG false ((s.take (strEnd s a).toNat).drop a) then none else
  if (unesc ((s.take (strEnd s a).toNat).drop a)).2 then some ((unesc ((s.take (strEnd s a).toNat).drop a)).1, (strEnd s a).toNat) else none
def slc (s : Bs) (a e : Nat) : Bs := (s.take e).drop a
/-- A word or a number: after the program; after the reference. -/
def leafI (s : Bs) (a : Nat) : Option (DJson × Nat) :=
  if nullW.isPrefixOf (s.drop a) then some (⟨1, [], [], []⟩, a + 4) else
  if trueW.isPrefixOf (s.drop a) then some (⟨2, [], [], []⟩, a + 4) else
  if falseW.isPrefixOf (s.drop a) then some (⟨3, [], [], []⟩, a + 5) else
  if (intOk ((s.drop a).take (runP isNb (s.drop a))) || floatOk ((s.drop a).take (runP isNb (s.drop a)))) then some (⟨4, (s.drop a).take (runP isNb (s.drop a)), [], []⟩, a + runP isNb (s.drop a)) else none
def leafS (s : Bs) (a : Nat) : Option (DJson × Nat) :=
  if (s.drop a).take (runP isWd (s.drop a)) = nullW then some (⟨1, [], [], []⟩, a + runP isWd (s.drop a)) else
  if (s.drop a).take (runP isWd (s.drop a)) = trueW then some (⟨2, [], [], []⟩, a + runP isWd (s.drop a)) else
  if (s.drop a).take (runP isWd (s.drop a)) = falseW then some (⟨3, [], [], []⟩, a + runP isWd (s.drop a)) else
  if (intOk ((s.drop a).take (runP isWd (s.drop a))) || floatOk ((s.drop a).take (runP isWd (s.drop a)))) then some (⟨4, (s.drop a).take (runP isWd (s.drop a)), [], []⟩, a + runP isWd (s.drop a)) else none
def kindP (obj : Bool) : Int := if obj then 7 else 6
def shutP (obj : Bool) : UInt8 := if obj then 125 else 93
mutual
/-- What stands at a place, and the place behind it. -/
def rdJ (leaf : Bs → Nat → Option (DJson × Nat)) : Nat → Bs → Nat → Nat → Option (DJson × Nat)
  | 0, _, _, _ => none
  | n + 1, s, a, d => match s[pass s a]? with
    | none => none
    | some b => if b = 34 then (rdStr s (pass s a)).map fun x => (⟨5, x.1, [], []⟩, x.2)
      else if b = 91 ∨ b = 123 then (if d = 0 then none else rdP leaf n s (pass s a + 1) (decide (b = 123)) (d - 1))
      else leaf s (pass s a)
/-- The parts of a list or an object. -/
def rdP (leaf : Bs → Nat → Option (DJson × Nat)) : Nat → Bs → Nat → Bool → Nat → Option (DJson × Nat)
  | 0, _, _, _, _ => none
  | n + 1, s, a, obj, d => if s[pass s a]? = some (shutP obj) then some (⟨kindP obj, [], [], []⟩, pass s a + 1) else rdL leaf n s a obj d [] []
def rdL (leaf : Bs → Nat → Option (DJson × Nat)) : Nat → Bs → Nat → Bool → Nat → List Bs → List DJson → Option (DJson × Nat)
  | 0, _, _, _, _, _, _ => none
  | n + 1, s, a, obj, d, names, items =>
    match (if obj then (match rdStr s (pass s a) with
      | none => none
      | some (t, e) => if s[pass s e]? = some 58 then some (names ++ [t], pass s e + 1) else none) else some (names, a)) with
    | none => none
    | some (names', a') => match rdJ leaf n s a' d with
      | none => none
      | some (x, e) => if s[pass s e]? = some (shutP obj) then some (⟨kindP obj, [], items ++ [x], names'⟩, pass s e + 1)
        else if s[pass s e]? = some 44 then rdL leaf n s (pass s e + 1) obj d names' (items ++ [x]) else none
end
/-- An object's name and what stands behind it. -/
def rdN (s : Bs) (a : Nat) (obj : Bool) (names : List Bs) : Option (List Bs × Nat) :=
  if obj then (match rdStr s (pass s a) with
      | none => none
      | some (t, e) => if s[pass s e]? = some 58 then some (names ++ [t], pass s e + 1) else none) else some (names, a)
theorem rdL_eq (leaf : Bs → Nat → Option (DJson × Nat)) (n : Nat) (s : Bs) (a : Nat) (obj : Bool) (d : Nat) (names : List Bs) (items : List DJson) :
    rdL leaf (n + 1) s a obj d names items = match rdN s a obj names with
    | none => none
    | some (names', a') => match rdJ leaf n s a' d with
      | none => none
      | some (x, e) => if s[pass s e]? = some (shutP obj) then some (⟨kindP obj, [], items ++ [x], names'⟩, pass s e + 1)
        else if s[pass s e]? = some 44 then rdL leaf n s (pass s e + 1) obj d names' (items ++ [x]) else none := by
  rw [rdL]; rfl
theorem rdStr_bnd {s : Bs} {a : Nat} {t : Bs} {e : Nat} (h : rdStr s a = some (t, e)) : a + 2 ≤ e ∧ e ≤ s.length ∧ textOk t = true ∧ t.length ≤ 200 := by
  unfold rdStr at h
  split at h
  · cases h
  · next h1 =>
    split at h
    · cases h
    · split at h
      · next h2 =>
        simp only [Option.some.injEq, Prod.mk.injEq] at h
        obtain ⟨rfl, rfl⟩ := h
        have h3 := unesc_ok h2
        rcases strEnd_cases s a with e1 | ⟨k, e1, e2, e3, _⟩
        · omega
        · rw [e1] at h1 h3 ⊢
          exact ⟨by omega, by omega, h3.1, h3.2⟩
      · cases h
theorem runP_take {p : UInt8 → Bool} : ∀ (l : Bs), ∀ b ∈ l.take (runP p l), p b = true := by
  intro l; induction l with
  | nil => simp
  | cons c l ih =>
    intro b hb
    rw [runP_cons] at hb
    split at hb
    · next hc =>
      simp only [List.take_succ_cons, List.mem_cons] at hb
      rcases hb with rfl | hb
      · exact hc
      · exact ih b hb
    · simp at hb
theorem runP_stop {p : UInt8 → Bool} : ∀ (l : Bs) (b : UInt8), l[runP p l]? = some b → p b = false := by
  intro l; induction l with
  | nil => intro b h; simp at h
  | cons c l ih =>
    intro b h
    rw [runP_cons] at h
    split at h
    · exact ih b (by simpa using h)
    · next hc => simp at h; subst h; simpa using hc
theorem runP_eq {p : UInt8 → Bool} : ∀ (l : Bs) (k : Nat), k ≤ l.length → (∀ b ∈ l.take k, p b = true) → (∀ b, l[k]? = some b → p b = false) → runP p l = k := by
  intro l; induction l with
  | nil => intro k h _ _; simp at h; simp [runP, h]
  | cons c l ih =>
    intro k hk h1 h2
    rw [runP_cons]
    cases k with
    | zero =>
      have := h2 c (by simp)
      rw [this]; simp
    | succ k =>
      rw [if_pos (h1 c (by simp)), ih k (by simpa using hk) (fun b hb => h1 b (by simp [hb])) (fun b hb => h2 b (by simpa using hb))]
theorem isNb_wd {b : UInt8} (h : isNb b = true) : isWd b = true := by
  unfold isNb at h; unfold isWd
  simp only [Bool.or_eq_true] at h ⊢
  rcases h with (((h | h) | h) | h) | h
  · exact .inl (.inl (.inl (.inl (.inl h))))
  · exact .inl (.inl (.inl (.inr h)))
  · exact .inl (.inl (.inr h))
  · exact .inl (.inr h)
  · exact .inr h
theorem num_nb {w : Bs} (h : (intOk w || floatOk w) = true) : (∀ b ∈ w, isNb b = true) ∧ ∃ b r, w = b :: r ∧ (isFig b = true ∨ b = 45) := by
  have hfig : ∀ b, isFig b = true → isNb b = true := fun b hb => by unfold isNb; simp [hb]
  have h45 : isNb 45 = true := by decide
  have hI : ∀ I : Bs, intOk I = true → (∀ b ∈ I, isNb b = true) ∧ ∃ b r, I = b :: r ∧ (isFig b = true ∨ b = 45) := by
    intro I hI
    have hm := intOk_mem hI
    refine ⟨fun b hb => ?_, ?_⟩
    · rcases hm b hb with h | rfl
      · exact hfig b h
      · exact h45
    · have := (intOk_split I).1 hI
      cases I with
      | nil => simp at this
      | cons b r => exact ⟨b, r, rfl, hm b (by simp)⟩
  simp only [Bool.or_eq_true] at h
  rcases h with h | h
  · exact hI w h
  · obtain ⟨_, I, F, E, rfl, h1, h2, h3, _⟩ := floatOk_FL h
    obtain ⟨g1, b, r, g2, g3⟩ := hI I h1
    refine ⟨fun c hc => ?_, b, r ++ (F ++ E), by rw [g2]; rfl, g3⟩
    simp only [List.mem_append] at hc
    rcases hc with hc | hc | hc
    · exact g1 c hc
    · rcases h2 with rfl | ⟨d, rfl, hd⟩
      · simp at hc
      · simp only [List.mem_cons] at hc
        rcases hc with rfl | hc
        · decide
        · exact hfig c (List.all_eq_true.1 (figs_iff.1 hd).1 c hc)
    · rcases h3 with rfl | ⟨c0, g, d, he, rfl, hg, hd⟩
      · simp at hc
      · simp only [List.mem_cons, List.mem_append] at hc
        rcases hc with rfl | hc | hc
        · rcases isE_iff.1 he with rfl | rfl <;> decide
        · rcases hg with rfl | rfl | rfl
          · simp at hc
          · simp at hc; subst hc; decide
          · simp at hc; subst hc; decide
        · exact hfig c (List.all_eq_true.1 (figs_iff.1 hd).1 c hc)
theorem prefix_take {w l : Bs} (h : w.isPrefixOf l = true) : l.take w.length = w ∧ w.length ≤ l.length := by
  obtain ⟨r, rfl⟩ := List.isPrefixOf_iff_prefix.1 h
  exact ⟨by simp, by simp⟩
theorem prefix_of_take {w l : Bs} {k : Nat} (h : l.take k = w) : w.isPrefixOf l = true := by
  rw [List.isPrefixOf_iff_prefix]; exact ⟨l.drop k, by rw [← h, List.take_append_drop]⟩
theorem word_run {w l : Bs} (hw : ∀ b ∈ w, isWd b = true) (h : w.isPrefixOf l = true) (hs : ∀ b, l[w.length]? = some b → isWd b = false) : runP isWd l = w.length := by
  obtain ⟨h1, h2⟩ := prefix_take h
  exact runP_eq l w.length h2 (by rw [h1]; exact hw) hs
theorem wd_null : ∀ b ∈ nullW, isWd b = true := by decide
theorem wd_true : ∀ b ∈ trueW, isWd b = true := by decide
theorem wd_false : ∀ b ∈ falseW, isWd b = true := by decide
/-- A number is no word. -/
theorem num_noword {l : Bs} {k : Nat} {w : Bs} (h : (intOk (l.take k) || floatOk (l.take k)) = true) (hw : ∀ b, w[0]? = some b → ¬ (isFig b = true ∨ b = 45)) (hne : w ≠ []) : w.isPrefixOf l = false := by
  obtain ⟨_, b, r, e, hb⟩ := num_nb h
  cases hp : w.isPrefixOf l with
  | false => rfl
  | true =>
    exfalso
    obtain ⟨t, rfl⟩ := List.isPrefixOf_iff_prefix.1 hp
    cases w with
    | nil => exact hne rfl
    | cons c w =>
      cases k with
      | zero => simp at e
      | succ k =>
        simp only [List.cons_append, List.take_succ_cons, List.cons.injEq] at e
        obtain ⟨rfl, _⟩ := e
        exact hw c (by simp) hb
theorem w0 : (∀ b, nullW[0]? = some b → ¬ (isFig b = true ∨ b = 45)) ∧ (∀ b, trueW[0]? = some b → ¬ (isFig b = true ∨ b = 45)) ∧ ∀ b, falseW[0]? = some b → ¬ (isFig b = true ∨ b = 45) := by
  refine ⟨?_, ?_, ?_⟩ <;> (intro b h; simp [nullW, trueW, falseW] at h; subst h; decide)
theorem leaf_SI {s : Bs} {a : Nat} {x : DJson × Nat} (h : leafS s a = some x) : leafI s a = some x := by
  unfold leafS at h
  unfold leafI
  generalize s.drop a = l at *
  have hn := runP_le (p := isWd) (l := l)
  have key : ∀ w : Bs, l.take (runP isWd l) = w → w.isPrefixOf l = true ∧ runP isWd l = w.length := fun w e => ⟨prefix_of_take e, by rw [← e, List.length_take]; omega⟩
  by_cases c1 : l.take (runP isWd l) = nullW
  · rw [if_pos c1] at h
    obtain ⟨k1, k2⟩ := key _ c1
    rw [if_pos k1, ← h, k2]; rfl
  rw [if_neg c1] at h
  by_cases c2 : l.take (runP isWd l) = trueW
  · rw [if_pos c2] at h
    obtain ⟨k1, k2⟩ := key _ c2
    have : nullW.isPrefixOf l = false := by
      cases hp : nullW.isPrefixOf l with
      | false => rfl
      | true => have := (prefix_take hp).1; have h2 := (prefix_take k1).1; rw [show nullW.length = trueW.length from rfl, h2] at this; exact absurd this (by decide)
    rw [this, if_neg (by simp), if_pos k1, ← h, k2]; rfl
  rw [if_neg c2] at h
  by_cases c3 : l.take (runP isWd l) = falseW
  · rw [if_pos c3] at h
    obtain ⟨k1, k2⟩ := key _ c3
    have h5 := (prefix_take k1).1
    have h4 : l.take 4 = falseW.take 4 := by rw [← h5, List.take_take]; rfl
    have n1 : nullW.isPrefixOf l = false := by
      cases hp : nullW.isPrefixOf l with
      | false => rfl
      | true => have := (prefix_take hp).1; rw [show nullW.length = 4 from rfl, h4] at this; exact absurd this (by decide)
    have n2 : trueW.isPrefixOf l = false := by
      cases hp : trueW.isPrefixOf l with
      | false => rfl
      | true => have := (prefix_take hp).1; rw [show trueW.length = 4 from rfl, h4] at this; exact absurd this (by decide)
    rw [n1, n2, if_neg (by simp), if_neg (by simp), if_pos k1, ← h, k2]; rfl
  rw [if_neg c3] at h
  by_cases c4 : (intOk (l.take (runP isWd l)) || floatOk (l.take (runP isWd l))) = true
  · rw [if_pos c4] at h
    obtain ⟨g1, _⟩ := num_nb c4
    have hr : runP isNb l = runP isWd l := by
      refine runP_eq l _ hn g1 fun b hb => ?_
      cases hnb : isNb b with
      | false => rfl
      | true => have := runP_stop l b hb; rw [isNb_wd hnb] at this; cases this
    rw [num_noword c4 w0.1 (by decide), num_noword c4 w0.2.1 (by decide), num_noword c4 w0.2.2 (by decide), if_neg (by simp), if_neg (by simp), if_neg (by simp), hr, if_pos c4]
    exact h
  · rw [if_neg c4] at h; cases h
theorem leaf_IS {s : Bs} {a : Nat} {j : DJson} {e : Nat} (h : leafI s a = some (j, e)) : leafS s a = some (j, e) ∨ ∃ b, s[e]? = some b ∧ isWd b = true := by
  unfold leafI at h
  unfold leafS
  have hd : ∀ k, s[a + k]? = (s.drop a)[k]? := fun k => by rw [List.getElem?_drop]
  generalize s.drop a = l at *
  have word : ∀ (w : Bs) (i : Int), (∀ b ∈ w, isWd b = true) → w.isPrefixOf l = true → e = a + w.length → (∃ b, s[e]? = some b ∧ isWd b = true) ∨ (l.take (runP isWd l) = w ∧ a + runP isWd l = e) := by
    intro w i hw hp he
    by_cases hb : ∃ b, s[e]? = some b ∧ isWd b = true
    · exact .inl hb
    · right
      have hr := word_run hw hp fun b hb2 => by
        cases hbw : isWd b with
        | false => rfl
        | true => exact absurd ⟨b, by rw [he, hd]; exact hb2, hbw⟩ hb
      rw [hr]; exact ⟨(prefix_take hp).1, he.symm⟩
  by_cases c1 : nullW.isPrefixOf l = true
  · rw [if_pos c1] at h
    simp only [Option.some.injEq, Prod.mk.injEq] at h
    obtain ⟨rfl, rfl⟩ := h
    rcases word nullW 1 wd_null c1 rfl with hb | ⟨h1, h2⟩
    · exact .inr hb
    · left; rw [if_pos h1, h2]
  rw [if_neg c1] at h
  by_cases c2 : trueW.isPrefixOf l = true
  · rw [if_pos c2] at h
    simp only [Option.some.injEq, Prod.mk.injEq] at h
    obtain ⟨rfl, rfl⟩ := h
    rcases word trueW 1 wd_true c2 rfl with hb | ⟨h1, h2⟩
    · exact .inr hb
    · left; rw [h1, if_neg (by decide), if_pos rfl, h2]
  rw [if_neg c2] at h
  by_cases c3 : falseW.isPrefixOf l = true
  · rw [if_pos c3] at h
    simp only [Option.some.injEq, Prod.mk.injEq] at h
    obtain ⟨rfl, rfl⟩ := h
    rcases word falseW 1 wd_false c3 rfl with hb | ⟨h1, h2⟩
    · exact .inr hb
    · left; rw [h1, if_neg (by decide), if_neg (by decide), if_pos rfl, h2]
  rw [if_neg c3] at h
  by_cases c4 : (intOk (l.take (runP isNb l)) || floatOk (l.take (runP isNb l))) = true
  · rw [if_pos c4] at h
    simp only [Option.some.injEq, Prod.mk.injEq] at h
    obtain ⟨rfl, rfl⟩ := h
    by_cases hb : ∃ b, s[a + runP isNb l]? = some b ∧ isWd b = true
    · exact .inr hb
    · left
      have hr : runP isWd l = runP isNb l := by
        refine runP_eq l _ runP_le (fun b hb2 => isNb_wd (runP_take l b hb2)) fun b hb2 => ?_
        cases hbw : isWd b with
        | false => rfl
        | true => exact absurd ⟨b, by rw [hd]; exact hb2, hbw⟩ hb
      have nw : ∀ w : Bs, w.isPrefixOf l = false → ¬ l.take (runP isNb l) = w := fun w hw e => by rw [prefix_of_take e] at hw; cases hw
      rw [hr, if_neg (nw _ (Bool.eq_false_iff.2 c1)), if_neg (nw _ (Bool.eq_false_iff.2 c2)), if_neg (nw _ (Bool.eq_false_iff.2 c3)), if_pos c4]
  · rw [if_neg c4] at h; cases h

theorem leafI_bnd {s : Bs} {a : Nat} {j : DJson} {e : Nat} (ha : a ≤ s.length) (h : leafI s a = some (j, e)) : a < e ∧ e ≤ s.length := by
  unfold leafI at h
  have hl : (s.drop a).length = s.length - a := List.length_drop
  have hr := runP_le (p := isNb) (l := s.drop a)
  generalize s.drop a = l at *
  by_cases c1 : nullW.isPrefixOf l = true
  · rw [if_pos c1] at h
    simp only [Option.some.injEq, Prod.mk.injEq] at h
    have := (prefix_take c1).2
    simp only [nullW, List.length_cons, List.length_nil] at this
    omega
  rw [if_neg c1] at h
  by_cases c2 : trueW.isPrefixOf l = true
  · rw [if_pos c2] at h
    simp only [Option.some.injEq, Prod.mk.injEq] at h
    have := (prefix_take c2).2
    simp only [trueW, List.length_cons, List.length_nil] at this
    omega
  rw [if_neg c2] at h
  by_cases c3 : falseW.isPrefixOf l = true
  · rw [if_pos c3] at h
    simp only [Option.some.injEq, Prod.mk.injEq] at h
    have := (prefix_take c3).2
    simp only [falseW, List.length_cons, List.length_nil] at this
    omega
  rw [if_neg c3] at h
  by_cases c4 : (intOk (l.take (runP isNb l)) || floatOk (l.take (runP isNb l))) = true
  · rw [if_pos c4] at h
    simp only [Option.some.injEq, Prod.mk.injEq] at h
    obtain ⟨_, b, r, e1, _⟩ := num_nb c4
    have := congrArg List.length e1
    simp only [List.length_take, List.length_cons] at this
    omega
  · rw [if_neg c4] at h; cases h
theorem rdN_bnd {s : Bs} {a : Nat} {obj : Bool} {names names' : List Bs} {a' : Nat} (ha : a ≤ s.length) (h : rdN s a obj names = some (names', a')) : a ≤ a' ∧ a' ≤ s.length := by
  unfold rdN at h
  split at h
  · split at h
    · cases h
    · next t e h1 =>
      have hb := rdStr_bnd h1
      split at h
      · next h2 =>
        simp only [Option.some.injEq, Prod.mk.injEq] at h
        have h3 := (List.getElem?_eq_some_iff.1 h2).1
        have h4 := pass_ge s a
        have h5 := pass_ge s e
        omega
      · cases h
  · simp only [Option.some.injEq, Prod.mk.injEq] at h; omega
/-- What is read goes on. -/
theorem rd_bnd {leaf : Bs → Nat → Option (DJson × Nat)} (hleaf : ∀ s a j e, a ≤ s.length → leaf s a = some (j, e) → a < e ∧ e ≤ s.length) : ∀ n : Nat,
    (∀ s a d j e, a ≤ s.length → rdJ leaf n s a d = some (j, e) → a < e ∧ e ≤ s.length) ∧ (∀ s a obj d j e, a ≤ s.length → rdP leaf n s a obj d = some (j, e) → a < e ∧ e ≤ s.length) ∧
    (∀ s a obj d names items j e, a ≤ s.length → rdL leaf n s a obj d names items = some (j, e) → a < e ∧ e ≤ s.length) := by
  intro n; induction n with
  | zero => exact ⟨fun s a d j e _ h => by simp [rdJ] at h, fun s a obj d j e _ h => by simp [rdP] at h, fun s a obj d names items j e _ h => by simp [rdL] at h⟩
  | succ n ih =>
    obtain ⟨i1, i2, i3⟩ := ih
    refine ⟨fun s a d j e ha h => ?_, fun s a obj d j e ha h => ?_, fun s a obj d names items j e ha h => ?_⟩
    · have hp := pass_le ha
      have hg := pass_ge s a
      rw [rdJ] at h
      split at h
      · cases h
      · next b hb =>
        have hbl := (List.getElem?_eq_some_iff.1 hb).1
        split at h
        · cases hr : rdStr s (pass s a) with
          | none => rw [hr] at h; cases h
          | some x =>
            rw [hr] at h
            simp only [Option.map_some, Option.some.injEq, Prod.mk.injEq] at h
            have := rdStr_bnd (t := x.1) (e := x.2) hr
            omega
        · split at h
          · split at h
            · cases h
            · have := i2 _ _ _ _ _ _ (by omega) h; omega
          · have := hleaf _ _ _ _ hp h; omega
    · have hp := pass_le ha
      have hg := pass_ge s a
      rw [rdP] at h
      split at h
      · next h1 =>
        have := (List.getElem?_eq_some_iff.1 h1).1
        simp only [Option.some.injEq, Prod.mk.injEq] at h; omega
      · exact i3 _ _ _ _ _ _ _ _ ha h
    · rw [rdL_eq] at h
      split at h
      · cases h
      · next names' a' hN =>
        have hb := rdN_bnd ha hN
        split at h
        · cases h
        · next x e0 hJ =>
          have hb2 := i1 _ _ _ _ _ hb.2 hJ
          have hg := pass_ge s e0
          split at h
          · next h1 =>
            have := (List.getElem?_eq_some_iff.1 h1).1
            simp only [Option.some.injEq, Prod.mk.injEq] at h; omega
          · split at h
            · next h1 =>
              have h2 := (List.getElem?_eq_some_iff.1 h1).1
              have := i3 _ _ _ _ _ _ _ _ (by omega) h; omega
            · cases h
/-- What the reference reads the program reads. -/
theorem rd_SI : ∀ n : Nat, (∀ s a d x, rdJ leafS n s a d = some x → rdJ leafI n s a d = some x) ∧ (∀ s a obj d x, rdP leafS n s a obj d = some x → rdP leafI n s a obj d = some x) ∧
    (∀ s a obj d names items x, rdL leafS n s a obj d names items = some x → rdL leafI n s a obj d names items = some x) := by
  intro n; induction n with
  | zero => exact ⟨fun s a d x h => by simp [rdJ] at h, fun s a obj d x h => by simp [rdP] at h, fun s a obj d names items x h => by simp [rdL] at h⟩
  | succ n ih =>
    obtain ⟨i1, i2, i3⟩ := ih
    refine ⟨fun s a d x h => ?_, fun s a obj d x h => ?_, fun s a obj d names items x h => ?_⟩
    · rw [rdJ] at h ⊢
      cases hb : s[pass s a]? with
      | none => rw [hb] at h; cases h
      | some b =>
        rw [hb] at h
        simp only at h ⊢
        by_cases c1 : b = 34
        · rw [if_pos c1] at h ⊢; exact h
        rw [if_neg c1] at h ⊢
        by_cases c2 : b = 91 ∨ b = 123
        · rw [if_pos c2] at h ⊢
          by_cases c3 : d = 0
          · rw [if_pos c3] at h; cases h
          · rw [if_neg c3] at h ⊢; exact i2 _ _ _ _ _ h
        · rw [if_neg c2] at h ⊢; exact leaf_SI h
    · rw [rdP] at h ⊢
      by_cases c1 : s[pass s a]? = some (shutP obj)
      · rw [if_pos c1] at h ⊢; exact h
      · rw [if_neg c1] at h ⊢; exact i3 _ _ _ _ _ _ _ h
    · rw [rdL_eq] at h ⊢
      split at h
      · cases h
      · next names' a' hN =>
        split at h
        · cases h
        · next x0 e0 hJ =>
          rw [i1 _ _ _ _ hJ]
          simp only
          by_cases c1 : s[pass s e0]? = some (shutP obj)
          · rw [if_pos c1] at h ⊢; exact h
          rw [if_neg c1] at h ⊢
          by_cases c2 : s[pass s e0]? = some 44
          · rw [if_pos c2] at h ⊢; exact i3 _ _ _ _ _ _ _ h
          · rw [if_neg c2] at h; cases h
theorem wd_no {b : UInt8} (h : isWd b = true) : isBl b = false ∧ b ≠ 93 ∧ b ≠ 125 ∧ b ≠ 44 :=
  u8_all (p := fun b => isWd b = true → isBl b = false ∧ b ≠ 93 ∧ b ≠ 125 ∧ b ≠ 44) (by decide) b h
/-- What the program reads the reference reads, unless a word goes on behind it. -/
theorem rd_IS : ∀ n : Nat, (∀ s a d j e, rdJ leafI n s a d = some (j, e) → rdJ leafS n s a d = some (j, e) ∨ ∃ b, s[e]? = some b ∧ isWd b = true) ∧ (∀ s a obj d x, rdP leafI n s a obj d = some x → rdP leafS n s a obj d = some x) ∧
    (∀ s a obj d names items x, rdL leafI n s a obj d names items = some x → rdL leafS n s a obj d names items = some x) := by
  intro n; induction n with
  | zero => exact ⟨fun s a d j e h => by simp [rdJ] at h, fun s a obj d x h => by simp [rdP] at h, fun s a obj d names items x h => by simp [rdL] at h⟩
  | succ n ih =>
    obtain ⟨i1, i2, i3⟩ := ih
    refine ⟨fun s a d j e h => ?_, fun s a obj d x h => ?_, fun s a obj d names items x h => ?_⟩
    · rw [rdJ] at h ⊢
      cases hb : s[pass s a]? with
      | none => rw [hb] at h; cases h
      | some b =>
        rw [hb] at h
        simp only at h ⊢
        by_cases c1 : b = 34
        · rw [if_pos c1] at h ⊢; exact .inl h
        rw [if_neg c1] at h ⊢
        by_cases c2 : b = 91 ∨ b = 123
        · rw [if_pos c2] at h ⊢
          by_cases c3 : d = 0
          · rw [if_pos c3] at h; cases h
          · rw [if_neg c3] at h ⊢; exact .inl (i2 _ _ _ _ _ h)
        · rw [if_neg c2] at h ⊢; exact leaf_IS h
    · rw [rdP] at h ⊢
      by_cases c1 : s[pass s a]? = some (shutP obj)
      · rw [if_pos c1] at h ⊢; exact h
      · rw [if_neg c1] at h ⊢; exact i3 _ _ _ _ _ _ _ h
    · rw [rdL_eq] at h ⊢
      split at h
      · cases h
      · next names' a' hN =>
        split at h
        · cases h
        · next x0 e0 hJ =>
          have hS : rdJ leafS n s a' d = some (x0, e0) := by
            rcases i1 _ _ _ _ _ hJ with hS | ⟨b, hb, hw⟩
            · exact hS
            · exfalso
              obtain ⟨w1, w2, w3, w4⟩ := wd_no hw
              have hp : pass s e0 = e0 := by rw [pass_step hb, w1]; simp
              rw [hp, hb] at h
              have n1 : ¬ some b = some (shutP obj) := by
                intro e1; have := Option.some.inj e1
                unfold shutP at this
                split at this
                · exact w3 this
                · exact w2 this
              rw [if_neg n1, if_neg (fun e1 => w4 (Option.some.inj e1))] at h
              cases h
          rw [hS]
          simp only
          by_cases c1 : s[pass s e0]? = some (shutP obj)
          · rw [if_pos c1] at h ⊢; exact h
          rw [if_neg c1] at h ⊢
          by_cases c2 : s[pass s e0]? = some 44
          · rw [if_pos c2] at h ⊢; exact i3 _ _ _ _ _ _ _ h
          · rw [if_neg c2] at h; cases h
/-- What was read is right. -/
theorem noEsc_read {t : Bs} (h1 : textOk t = true) (h2 : t.length ≤ 200) : noEsc t = false := by
  unfold noEsc escaped
  rw [if_neg (by rw [h1]; simp; omega)]
  simp
theorem leafI_ok {s : Bs} {a : Nat} {j : DJson} {e : Nat} (d : Int) (h : leafI s a = some (j, e)) : jOk j d = true := by
  unfold leafI at h
  generalize s.drop a = l at *
  by_cases c1 : nullW.isPrefixOf l = true
  · rw [if_pos c1] at h
    simp only [Option.some.injEq, Prod.mk.injEq] at h
    rw [← h.1]; simp [jOk, jHead]
  rw [if_neg c1] at h
  by_cases c2 : trueW.isPrefixOf l = true
  · rw [if_pos c2] at h
    simp only [Option.some.injEq, Prod.mk.injEq] at h
    rw [← h.1]; simp [jOk, jHead]
  rw [if_neg c2] at h
  by_cases c3 : falseW.isPrefixOf l = true
  · rw [if_pos c3] at h
    simp only [Option.some.injEq, Prod.mk.injEq] at h
    rw [← h.1]; simp [jOk, jHead]
  rw [if_neg c3] at h
  by_cases c4 : (intOk (l.take (runP isNb l)) || floatOk (l.take (runP isNb l))) = true
  · rw [if_pos c4] at h
    simp only [Option.some.injEq, Prod.mk.injEq] at h
    rw [← h.1]
    simp only [Bool.or_eq_true] at c4
    simp [jOk, jHead, c4]
  · rw [if_neg c4] at h; cases h
theorem jOkS_snoc {xs : List DJson} {x : DJson} {d : Int} : jOkS (xs ++ [x]) d = (jOkS xs d && jOk x d) := by
  induction xs with
  | nil => simp [jOkS]
  | cons y ys ih => simp only [List.cons_append, jOkS, ih, Bool.and_assoc]
theorem rd_ok : ∀ n : Nat, (∀ s a (d : Nat) j e, rdJ leafI n s a d = some (j, e) → jOk j (d : Int) = true) ∧ (∀ s a obj (d : Nat) j e, rdP leafI n s a obj d = some (j, e) → jOk j ((d : Int) + 1) = true) ∧
    (∀ s a obj (d : Nat) names items j e, names.length = (if obj then items.length else 0) → anyNoEsc names = false → jOkS items (d : Int) = true → rdL leafI n s a obj d names items = some (j, e) → jOk j ((d : Int) + 1) = true) := by
  intro n; induction n with
  | zero => exact ⟨fun s a d j e h => by simp [rdJ] at h, fun s a obj d j e h => by simp [rdP] at h, fun s a obj d names items j e _ _ _ h => by simp [rdL] at h⟩
  | succ n ih =>
    obtain ⟨i1, i2, i3⟩ := ih
    refine ⟨fun s a d j e h => ?_, fun s a obj d j e h => ?_, fun s a obj d names items j e hn1 hn2 hit h => ?_⟩
    · rw [rdJ] at h
      split at h
      · cases h
      · split at h
        · cases hr : rdStr s (pass s a) with
          | none => rw [hr] at h; cases h
          | some x =>
            rw [hr] at h
            simp only [Option.map_some, Option.some.injEq, Prod.mk.injEq] at h
            obtain ⟨_, _, k1, k2⟩ := rdStr_bnd (t := x.1) (e := x.2) hr
            rw [← h.1]
            simp [jOk, jHead, noEsc_read k1 k2]
        · split at h
          · split at h
            · cases h
            · next hd =>
              have := i2 _ _ _ _ _ _ h
              rw [show ((d - 1 : Nat) : Int) + 1 = d by omega] at this
              exact this
          · exact leafI_ok _ h
    · rw [rdP] at h
      split at h
      · simp only [Option.some.injEq, Prod.mk.injEq] at h
        rw [← h.1]
        cases obj
        · simp [jOk, jHead, kindP, jOkS] <;> omega
        · simp [jOk, jHead, kindP, jOkS, anyNoEsc] <;> omega
      · exact i3 _ _ _ _ _ _ _ _ (by cases obj <;> rfl) rfl rfl h
    · rw [rdL_eq] at h
      split at h
      · cases h
      · next names' a' hN =>
        have hN2 : names'.length = (if obj then items.length + 1 else 0) ∧ anyNoEsc names' = false := by
          unfold rdN at hN
          cases obj with
          | false =>
            simp only [Bool.false_eq_true, if_false, Option.some.injEq, Prod.mk.injEq] at hN hn1 ⊢
            rw [← hN.1]; exact ⟨hn1, hn2⟩
          | true =>
            simp only [if_true] at hN hn1 ⊢
            split at hN
            · cases hN
            · next t e1 hr =>
              obtain ⟨_, _, k1, k2⟩ := rdStr_bnd hr
              split at hN
              · simp only [Option.some.injEq, Prod.mk.injEq] at hN
                rw [← hN.1]
                refine ⟨by simp [hn1], ?_⟩
                unfold anyNoEsc at hn2 ⊢
                rw [List.any_append, hn2]; simp [noEsc_read k1 k2]
              · cases hN
        split at h
        · cases h
        · next x e0 hJ =>
          have hx := i1 _ _ _ _ _ hJ
          have hs : jOkS (items ++ [x]) (d : Int) = true := by rw [jOkS_snoc, hit, hx]; rfl
          split at h
          · simp only [Option.some.injEq, Prod.mk.injEq] at h
            rw [← h.1]
            have hdd : (d : Int) + 1 - 1 = d := by omega
            cases obj with
            | false =>
              simp only [Bool.false_eq_true, if_false] at hN2
              simp [jOk, jHead, kindP, hs, List.eq_nil_of_length_eq_zero hN2.1] <;> omega
            | true =>
              simp only [if_true] at hN2
              simp [jOk, jHead, kindP, hs, hN2.1, hN2.2] <;> omega
          · split at h
            · refine i3 _ _ _ _ _ _ _ _ ?_ hN2.2 hs h
              rw [hN2.1]; cases obj <;> simp
            · cases h
end Go.Proofs.YthagllbnkbahnaaDoor.Abs
