/- Texts in quotes: the two ways to read them are one; what comes out is a text. No condition. -/
import Derived.Test.YtkefgpmnimpcdaaGreatDoorTxU
set_option linter.unusedVariables false
set_option linter.unusedSimpArgs false
namespace Go.Proofs.YtkefgpmnimpcdaaGreatDoor.Abs
open Go
set_option maxRecDepth 100000
theorem indexByte_cases (s : Bs) (c : UInt8) : (Lib.indexByte s c = -1 ∧ c ∉ s) ∨ ∃ p : Nat, Lib.indexByte s c = p ∧ s[p]? = some c ∧ c ∉ s.take p := by
  induction s with
  | nil => left; exact ⟨rfl, by simp⟩
  | cons b s ih =>
    by_cases h : b = c
    · subst h; right; exact ⟨0, by simp [Lib.indexByte], by simp, by simp⟩
    · have hb : (b == c) = false := by simpa using h
      rcases ih with ⟨h1, h2⟩ | ⟨p, h1, h2, h3⟩
      · left; exact ⟨by simp [Lib.indexByte, hb, h1], by simp only [List.mem_cons, not_or]; exact ⟨fun e => h e.symm, h2⟩⟩
      · right
        refine ⟨p + 1, ?_, by simpa using h2, by simp only [List.take_succ_cons, List.mem_cons, not_or]; exact ⟨fun e => h e.symm, h3⟩⟩
        simp only [Lib.indexByte, hb, h1]
        have : ((p : Int) == -1) = false := by rw [beq_eq_false_iff_ne]; omega
        simp [this]
theorem hexN_all : ∀ {s : Bs} {n : Int}, (∃ m, hexN s n = some m) ↔ ∀ b ∈ s, 0 ≤ hexV b := by
  intro s; induction s with
  | nil => intro n; simp [hexN]
  | cons b r ih =>
    intro n
    simp only [hexN, List.mem_cons, forall_eq_or_imp]
    split
    · constructor
      · rintro ⟨m, h⟩; cases h
      · intro h; omega
    · rw [ih]; constructor
      · intro h; exact ⟨by omega, h⟩
      · intro h; exact h.2
theorem runH_spec : ∀ (n : Nat) (q : Bs), (∀ b ∈ q.take (runH n q), 0 ≤ hexV b) ∧ runH n q ≤ n ∧ (runH n q < n → ∀ b, q[runH n q]? = some b → hexV b < 0) := by
  intro n; induction n with
  | zero => intro q; simp [runH]
  | succ n ih =>
    intro q
    cases q with
    | nil => simp [runH]
    | cons b r =>
      simp only [runH]
      split
      · next h => refine ⟨by simp, by omega, fun _ c hc => ?_⟩; simp at hc; subst hc; exact h
      · next h =>
        obtain ⟨h1, h2, h3⟩ := ih r
        refine ⟨fun c hc => ?_, by omega, fun hl c hc => h3 (by omega) c (by simpa using hc)⟩
        simp only [List.take_succ_cons, List.mem_cons] at hc
        rcases hc with rfl | hc
        · omega
        · exact h1 c hc
theorem runH_eq : ∀ (n : Nat) (q : Bs) (p : Nat), p < n → (∀ b ∈ q.take p, 0 ≤ hexV b) → (∃ b, q[p]? = some b ∧ hexV b < 0) → runH n q = p := by
  intro n; induction n with
  | zero => intro q p h; omega
  | succ n ih =>
    intro q p hp ha hb
    cases q with
    | nil => obtain ⟨b, hb, _⟩ := hb; simp at hb
    | cons c r =>
      cases p with
      | zero => obtain ⟨b, hb, h0⟩ := hb; simp at hb; subst hb; simp [runH, h0]
      | succ p =>
        have hc := ha c (by simp)
        simp only [runH, if_neg (by omega : ¬ hexV c < 0)]
        rw [ih r p (by omega) (fun b hb => ha b (by simp [hb])) (by simpa using hb)]
theorem hexV_ascii {b : UInt8} (h : 0 ≤ hexV b) : b.toNat < 128 := by
  unfold hexV at h; repeat' split at h
  all_goals omega
theorem four_ok {s : Bs} (h : (rFour s).2 = true) : numS s 4 = (rFour s).1 ∧ 0 ≤ (rFour s).1 ∧ (rFour s).1 < 65536 ∧ 4 ≤ s.length ∧ ∀ b ∈ s.take 4, b.toNat < 128 := by
  unfold rFour at h ⊢
  split at h
  · cases h
  · next hl =>
    rw [if_neg hl]
    unfold rHex at h ⊢
    unfold numS
    rw [if_neg hl]
    cases hx : hexN (s.take 4) 0 with
    | none => rw [hx] at h; cases h
    | some n =>
      have hb := hexN_bound (by omega) hx
      have hlen : (s.take 4).length = 4 := by rw [List.length_take]; omega
      rw [hlen] at hb
      refine ⟨rfl, hb.1, by simp only; omega, by omega, fun b hb => hexV_ascii (hexN_all.1 ⟨n, hx⟩ b hb)⟩
theorem four_no {s : Bs} (h : (rFour s).2 = false) : numS s 4 < 0 := by
  unfold rFour at h
  unfold numS
  split at h
  · next hl => rw [if_pos hl]; decide
  · next hl =>
    rw [if_neg hl]
    unfold rHex at h
    cases hx : hexN (s.take 4) 0 with
    | none => decide
    | some n =>
      rw [hx] at h
      simp only [decide_eq_false_iff_not, ne_eq, Classical.not_not] at h
      have : (s.take 4).length = 0 := by rw [h]; rfl
      rw [List.length_take] at this; omega
theorem pre1 {a : UInt8} {s : Bs} : (([a] : Bs).isPrefixOf s = true) ↔ s[0]? = some a := by
  cases s with
  | nil => simp [List.isPrefixOf]
  | cons b r => simp [List.isPrefixOf]; exact eq_comm
theorem pre2 {a b : UInt8} {s : Bs} : (([a, b] : Bs).isPrefixOf s = true) ↔ s[0]? = some a ∧ s[1]? = some b := by
  match s with
  | [] => simp [List.isPrefixOf]
  | [c] => simp [List.isPrefixOf]
  | c :: d :: r => simp [List.isPrefixOf]; constructor <;> (rintro ⟨rfl, rfl⟩; exact ⟨rfl, rfl⟩)
/-- The escape u: both ways are one. -/
theorem uni_eq (s : Bs) : ((rUni s).2.2 = true → lRune (92 :: 117 :: s) = ((rUni s).1, (rUni s).2.1.toNat + 2) ∧ 0 ≤ (rUni s).1 ∧ 0 ≤ (rUni s).2.1 ∧ (rUni s).2.1 ≤ s.length ∧ ∀ b ∈ s.take (rUni s).2.1.toNat, b.toNat < 128) ∧
    ((rUni s).2.2 = false → (lRune (92 :: 117 :: s)).1 < 0) := by
  have hL : lRune (92 :: 117 :: s) = if s[0]? = some 123 then
      (if runH 7 (s.drop 1) = 0 ∨ 6 < runH 7 (s.drop 1) ∨ s[runH 7 (s.drop 1) + 1]? ≠ some 125 ∨ scalar? (numS (s.drop 1) (runH 7 (s.drop 1))) = false then (-1, 0)
        else (numS (s.drop 1) (runH 7 (s.drop 1)), runH 7 (s.drop 1) + 4))
    else if numS s 4 < 0 then (-1, 0)
    else if inR (numS s 4) 55296 56319 = true ∧ s[4]? = some 92 ∧ s[5]? = some 117 then
      (if inR (numS (s.drop 6) 4) 56320 57343 = false then (-1, 0) else (65536 + 1024 * (numS s 4 - 55296) + numS (s.drop 6) 4 - 56320, 12))
    else if scalar? (numS s 4) = false then (-1, 0)
    else (numS s 4, 6) := by
    simp only [lRune]
    rfl
  rw [hL]
  by_cases h0 : s[0]? = some 123
  · rw [if_pos h0]
    obtain ⟨q, rfl⟩ : ∃ q, s = 123 :: q := by
      cases s with
      | nil => simp at h0
      | cons c q => simp at h0; exact ⟨q, by rw [h0]⟩
    unfold rUni
    rw [if_pos (by rw [pre1]; rfl)]
    simp only [List.drop_succ_cons, List.drop_zero, List.getElem?_cons_succ]
    have hx125 : hexV 125 < 0 := by decide
    by_cases hin : inR (Lib.indexByte (123 :: q) 125) 2 7 = false
    · rw [if_pos hin]
      refine ⟨fun h => by simp at h, fun _ => ?_⟩
      have : runH 7 q = 0 ∨ 6 < runH 7 q ∨ q[runH 7 q]? ≠ some 125 ∨ scalar? (numS q (runH 7 q)) = false := by
        refine Classical.byContradiction fun hn => ?_
        obtain ⟨h1, h2, h3, h4⟩ : runH 7 q ≠ 0 ∧ ¬ 6 < runH 7 q ∧ q[runH 7 q]? = some 125 ∧ ¬ scalar? (numS q (runH 7 q)) = false := by
          refine ⟨fun e => hn (.inl e), fun e => hn (.inr (.inl e)), Classical.byContradiction fun e => hn (.inr (.inr (.inl e))), fun e => hn (.inr (.inr (.inr e)))⟩
        have hs := (runH_spec 7 q).1
        have h125 : (125 : UInt8) ∉ q.take (runH 7 q) := fun hm => by have := hs 125 hm; omega
        rcases indexByte_cases (123 :: q) 125 with ⟨_, h5⟩ | ⟨p, e1, e2, e3⟩
        · exact h5 (by simp [List.mem_of_getElem? h3])
        · have hp : p = runH 7 q + 1 := by
            cases p with
            | zero => simp at e2
            | succ p =>
              simp only [List.getElem?_cons_succ] at e2
              simp only [List.take_succ_cons, List.mem_cons, not_or] at e3
              rcases Nat.lt_trichotomy p (runH 7 q) with hl | he | hl
              · exact absurd (List.mem_of_getElem? (by rw [List.getElem?_take, if_pos hl]; exact e2)) h125
              · omega
              · exact absurd (List.mem_of_getElem? (by rw [List.getElem?_take, if_pos hl]; exact h3)) e3.2
          rw [e1, hp] at hin
          simp [inR] at hin; omega
      rw [if_pos this]; simp
    · rw [if_neg hin]
      rcases indexByte_cases (123 :: q) 125 with ⟨e1, _⟩ | ⟨p, e1, e2, e3⟩
      · rw [e1] at hin; simp [inR] at hin
      · rw [e1] at hin ⊢
        have hp : 2 ≤ p ∧ p ≤ 7 := by simp [inR] at hin; omega
        obtain ⟨p, rfl⟩ : ∃ k, p = k + 1 := ⟨p - 1, by omega⟩
        simp only [List.getElem?_cons_succ] at e2
        have hpl : p < q.length := (List.getElem?_eq_some_iff.1 e2).1
        simp only [Int.toNat_natCast, List.take_succ_cons, List.drop_succ_cons, List.drop_zero]
        have hne : q.take p ≠ [] := fun e => by have := congrArg List.length e; simp only [List.length_take, List.length_nil] at this; omega
        unfold rHex
        cases hx : hexN (q.take p) 0 with
        | none =>
          refine ⟨fun h => by simp at h, fun _ => ?_⟩
          have : runH 7 q = 0 ∨ 6 < runH 7 q ∨ q[runH 7 q]? ≠ some 125 ∨ scalar? (numS q (runH 7 q)) = false := by
            refine Classical.byContradiction fun hn => ?_
            obtain ⟨h1, h2, h3⟩ : runH 7 q ≠ 0 ∧ ¬ 6 < runH 7 q ∧ q[runH 7 q]? = some 125 := by
              refine ⟨fun e => hn (.inl e), fun e => hn (.inr (.inl e)), Classical.byContradiction fun e => hn (.inr (.inr (.inl e)))⟩
            have hs := (runH_spec 7 q).1
            have h125 : (125 : UInt8) ∉ q.take (runH 7 q) := fun hm => by have := hs 125 hm; omega
            simp only [List.take_succ_cons, List.mem_cons, not_or] at e3
            have hpe : p = runH 7 q := by
              rcases Nat.lt_trichotomy p (runH 7 q) with hl | he | hl
              · exact absurd (List.mem_of_getElem? (by rw [List.getElem?_take, if_pos hl]; exact e2)) h125
              · omega
              · exact absurd (List.mem_of_getElem? (by rw [List.getElem?_take, if_pos hl]; exact h3)) e3.2
            obtain ⟨m, hm⟩ := hexN_all (n := 0).2 hs
            rw [← hpe, hx] at hm; cases hm
          rw [if_pos this]; simp
        | some n =>
          have ha := hexN_all.1 ⟨n, hx⟩
          have hr : runH 7 q = p := runH_eq 7 q p (by omega) ha ⟨125, e2, hx125⟩
          have hb := hexN_bound (by omega) hx
          have hnum : numS q p = n := by unfold numS; rw [if_neg (by omega), hx]; rfl
          rw [hr, hnum, e2]
          simp only [ne_eq, not_true_eq_false, false_or, decide_eq_true_eq, hne, not_false_eq_true, decide_true, Bool.true_and]
          refine ⟨fun h => ?_, fun h => ?_⟩
          · rw [if_neg (show ¬ (p = 0 ∨ 6 < p ∨ scalar? n = false) by rw [h]; simp; omega)]
            refine ⟨by congr 1, hb.1, by omega, by simp only [List.length_cons]; omega, fun b hbm => ?_⟩
            rw [show ((p + 1 : Nat) : Int) + 1 = ((p + 2 : Nat) : Int) by omega, Int.toNat_natCast, List.take_succ_cons, List.take_add_one, e2] at hbm
            simp only [Option.toList, List.mem_cons, List.mem_append, List.not_mem_nil, or_false] at hbm
            rcases hbm with rfl | hbm | rfl
            · decide
            · exact hexV_ascii (ha b hbm)
            · decide
          · rw [if_pos (.inr (.inr h))]; simp
  · rw [if_neg h0]
    have hU : rUni s = if (rFour s).2 = false ∨ inR (rFour s).1 55296 56319 = false then ((rFour s).1, 4, (rFour s).2 && scalar? (rFour s).1)
      else if ([92, 117] : Bs).isPrefixOf (s.drop 4) = false then (0, 0, false)
      else (65536 + 1024 * ((rFour s).1 - 55296) + (rFour (s.drop 6)).1 - 56320, 10, (rFour (s.drop 6)).2 && inR (rFour (s.drop 6)).1 56320 57343) := by
      unfold rUni
      rw [if_neg (by rw [pre1]; exact h0)]
    rw [hU]
    cases h1 : (rFour s).2 with
    | false =>
      rw [if_pos (.inl rfl)]
      refine ⟨fun h => by simp at h, fun _ => ?_⟩
      rw [if_pos (four_no h1)]; simp
    | true =>
      obtain ⟨e1, e2, e3, e4, e5⟩ := four_ok h1
      rw [e1]
      generalize (rFour s).1 = n at *
      rw [if_neg (show ¬ n < 0 by omega)]
      cases h2 : inR n 55296 56319 with
      | false =>
        rw [if_pos (show true = false ∨ false = false from .inr rfl)]
        simp only [Bool.false_eq_true, false_and, if_false, Bool.true_and]
        refine ⟨fun h => ?_, fun h => ?_⟩
        · rw [if_neg (by simp [h])]
          exact ⟨rfl, e2, by omega, by omega, e5⟩
        · rw [if_pos h]; simp
      | true =>
        rw [if_neg (show ¬ (true = false ∨ true = false) by simp)]
        have hsur : scalar? n = false := by
          simp only [inR, Bool.and_eq_true, decide_eq_true_eq] at h2
          cases hc : scalar? n with
          | false => rfl
          | true => have := scalar_iff.1 hc; omega
        have hpre : (([92, 117] : Bs).isPrefixOf (s.drop 4) = true) ↔ s[4]? = some 92 ∧ s[5]? = some 117 := by
          rw [pre2, List.getElem?_drop, List.getElem?_drop]
        cases h3 : ([92, 117] : Bs).isPrefixOf (s.drop 4) with
        | false =>
          rw [h3] at hpre
          rw [if_pos (show false = false from rfl), if_neg (fun h => by have := hpre.2 h.2; cases this), if_pos hsur]
          exact ⟨fun h => by simp at h, fun _ => by simp⟩
        | true =>
          rw [h3] at hpre
          obtain ⟨g4, g5⟩ := hpre.1 rfl
          rw [if_neg (show ¬ (true = false) by simp), if_pos ⟨rfl, g4, g5⟩]
          have hl6 : 6 ≤ s.length := by have := (List.getElem?_eq_some_iff.1 g5).1; omega
          cases h4 : (rFour (s.drop 6)).2 with
          | false =>
            have := four_no h4
            refine ⟨fun h => by simp at h, fun _ => ?_⟩
            rw [if_pos (by simp [inR]; omega)]; simp
          | true =>
            obtain ⟨f1, f2, f3, f4, f5⟩ := four_ok h4
            rw [f1]
            generalize (rFour (s.drop 6)).1 = m at *
            rw [List.length_drop] at f4
            simp only [Bool.true_and]
            refine ⟨fun h => ?_, fun h => ?_⟩
            · rw [if_neg (by simp [h])]
              simp only [inR, Bool.and_eq_true, decide_eq_true_eq] at h2 h
              refine ⟨rfl, by omega, by omega, by omega, fun b hb => ?_⟩
              have hsp : s.take (10 : Int).toNat = s.take 4 ++ (92 :: 117 :: (s.drop 6).take 4) := by
                have d4 := drop_cons g4
                have d5 := drop_cons g5
                show s.take (4 + 6) = _
                rw [List.take_add, d4, List.take_succ_cons, d5, List.take_succ_cons]
              rw [hsp] at hb
              simp only [List.mem_append, List.mem_cons] at hb
              rcases hb with hb | rfl | rfl | hb
              · exact e5 b hb
              · decide
              · decide
              · exact f5 b hb
            · rw [if_pos h]; simp
def escE (b : UInt8) : Bs × Int × Bool := if b = 47 then ([47], 1, true) else if Lib.indexByte escOut b < 0 then ([], 0, false) else ((escIn.take ((Lib.indexByte escOut b).toNat + 1)).drop (Lib.indexByte escOut b).toNat, 1, true)
def escL (b : UInt8) : Int × Nat := if b = 34 ∨ b = 92 ∨ b = 47 then (b.toNat, 2) else if b = 98 then (8, 2) else if b = 116 then (9, 2) else if b = 110 then (10, 2) else if b = 102 then (12, 2) else if b = 114 then (13, 2) else (-1, 0)
theorem esc_all (b : UInt8) : ((escE b).2.2 = true → (escL b).2 = 2 ∧ (escE b).2.1 = 1 ∧ runeText (escL b).1 = (escE b).1 ∧ 0 ≤ (escL b).1 ∧ b.toNat < 128) ∧ ((escE b).2.2 = false → (escL b).1 < 0) :=
  u8_all (p := fun b => ((escE b).2.2 = true → (escL b).2 = 2 ∧ (escE b).2.1 = 1 ∧ runeText (escL b).1 = (escE b).1 ∧ 0 ≤ (escL b).1 ∧ b.toNat < 128) ∧ ((escE b).2.2 = false → (escL b).1 < 0)) (by decide) b
theorem esc_eq (r : Bs) : ((rEsc r).2.2 = true → (lRune (92 :: r)).2 = (rEsc r).2.1.toNat + 1 ∧ runeText (lRune (92 :: r)).1 = (rEsc r).1 ∧ 0 ≤ (lRune (92 :: r)).1 ∧ 0 ≤ (rEsc r).2.1 ∧ (rEsc r).2.1 ≤ r.length ∧ ∀ b ∈ r.take (rEsc r).2.1.toNat, b.toNat < 128) ∧
    ((rEsc r).2.2 = false → (lRune (92 :: r)).1 < 0) := by
  cases r with
  | nil => simp [rEsc, lRune]
  | cons b s =>
    by_cases hb : b = 117
    · subst hb
      obtain ⟨h1, h2⟩ := uni_eq s
      simp only [rEsc, if_true]
      refine ⟨fun h => ?_, h2⟩
      obtain ⟨g1, g2, g3, g4, g5⟩ := h1 h
      rw [g1]
      have e : ((rUni s).2.1 + 1).toNat = (rUni s).2.1.toNat + 1 := by omega
      refine ⟨by simp only; omega, rfl, g2, by omega, by simp only [List.length_cons]; omega, fun b hb => ?_⟩
      rw [e, List.take_succ_cons, List.mem_cons] at hb
      rcases hb with rfl | hb
      · decide
      · exact g5 b hb
    · have e1 : rEsc (b :: s) = escE b := by simp only [rEsc, if_neg hb]; rfl
      have e2 : lRune (92 :: b :: s) = escL b := by simp only [lRune, ne_eq, hb, not_false_eq_true, if_true]; rfl
      obtain ⟨h1, h2⟩ := esc_all b
      rw [e1, e2]
      refine ⟨fun h => ?_, h2⟩
      obtain ⟨g1, g2, g3, g4, g5⟩ := h1 h
      rw [g1, g2]
      refine ⟨rfl, g3, g4, by decide, by simp only [List.length_cons]; omega, fun c hc => ?_⟩
      have : c = b := by simpa using hc
      rw [this]; exact g5
theorem un_eq : ∀ (n : Nat) (l out : Bs), l.length ≤ n → (textOk l = true → unI n l out = unS n l out) ∧ (textOk l = false → unS n l out = none) := by
  intro n; induction n with
  | zero =>
    intro l out h
    have : l = [] := List.eq_nil_of_length_eq_zero (by omega)
    subst this
    exact ⟨fun _ => rfl, fun h => by simp [textOk_nil] at h⟩
  | succ n ih =>
    intro l out hl
    cases l with
    | nil => exact ⟨fun _ => rfl, fun h => by simp [textOk_nil] at h⟩
    | cons b r =>
      simp only [List.length_cons] at hl
      by_cases hb : b = 92
      · subst hb
        have hok : textOk (92 :: r) = textOk r := textOk_ascii1 (by decide)
        rw [hok]
        obtain ⟨h1, h2⟩ := esc_eq r
        have hst : stepS (92 :: r) = lRune (92 :: r) := by simp [stepS]
        simp only [unI, unS, hst]
        rw [if_neg (by decide)]
        simp only [if_true]
        cases he : (rEsc r).2.2 with
        | false => rw [if_pos (h2 he)]; simp
        | true =>
          obtain ⟨g1, g2, g3, g4, g5, g6⟩ := h1 he
          simp only [if_true]
          rw [if_neg (show ¬ (lRune (92 :: r)).1 < 0 by omega), g1, g2, List.drop_succ_cons, textOk_ascii g6]
          exact ih _ _ (by rw [List.length_drop]; omega)
      · have hst : stepS (b :: r) = if (runeAt (b :: r)).1 = 34 ∨ ((runeAt (b :: r)).1 < 32 ∧ (runeAt (b :: r)).1 ≠ 9) then (-1, (runeAt (b :: r)).2) else runeAt (b :: r) := by
          unfold stepS; rw [if_neg (by simpa using hb)]
        rcases Nat.lt_or_ge b.toNat 128 with hlo | hhi
        · rw [textOk_ascii1 hlo]
          simp only [unI, unS, hst, if_neg hb, runeAt_ascii hlo]
          have e34 : (b = 34 ∨ (b.toNat < 32 ∧ b ≠ 9)) ↔ ((b.toNat : Int) = 34 ∨ ((b.toNat : Int) < 32 ∧ (b.toNat : Int) ≠ 9)) := by
            have k1 : b = 34 ↔ b.toNat = 34 := ⟨fun h => by rw [h]; rfl, fun h => UInt8.toNat_inj.1 h⟩
            have k2 : b = 9 ↔ b.toNat = 9 := ⟨fun h => by rw [h]; rfl, fun h => UInt8.toNat_inj.1 h⟩
            rw [k1, ne_eq, k2]; omega
          by_cases hc : b = 34 ∨ (b.toNat < 32 ∧ b ≠ 9)
          · rw [if_pos hc, if_pos (e34.1 hc)]; simp
          · rw [if_neg hc, if_neg (fun h => hc (e34.2 h)), if_neg (by simp only; omega)]
            simp only [List.drop_succ_cons, List.drop_zero, runeText_ascii hlo]
            exact ih _ _ (by omega)
        · by_cases hk : (runeAt (b :: r)).2 = 0
          · have hn := runeAt_neg1 hk
            have hf : textOk (b :: r) = false := by rw [textOk_step (by simp), if_pos hk]
            refine ⟨fun h => absurd (hf.symm.trans h) (by simp), fun _ => ?_⟩
            simp [unS, hst, hn]
          · obtain ⟨hh1, hh2⟩ := high_bytes hhi hk
            have hle := runeAt_le (l := b :: r)
            have hru := runeText_runeAt hk
            have hto : textOk (b :: r) = textOk ((b :: r).drop (runeAt (b :: r)).2) := by rw [textOk_step (by simp), if_neg hk]
            rw [hto]
            have hI : unI (n + 1) (b :: r) out = unI n ((b :: r).drop (runeAt (b :: r)).2) (out ++ (b :: r).take (runeAt (b :: r)).2) := by
              rw [show n + 1 = (n + 1 - (runeAt (b :: r)).2) + (runeAt (b :: r)).2 by simp only [List.length_cons] at hle; omega, unI_high _ _ _ _ hle hh1]
              exact unI_fuel _ _ _ _ (by rw [List.length_drop]; simp only [List.length_cons] at hle ⊢; omega) (by rw [List.length_drop]; simp only [List.length_cons] at hle ⊢; omega)
            rw [hI]
            simp only [unS, hst]
            rw [if_neg (show ¬ ((runeAt (b :: r)).1 = 34 ∨ (runeAt (b :: r)).1 < 32 ∧ (runeAt (b :: r)).1 ≠ 9) by omega), if_neg (by omega), hru]
            exact ih _ _ (by rw [List.length_drop]; simp only [List.length_cons] at hle ⊢; omega)
theorem contN_snoc {c : UInt8} (hc : c.toNat < 128) : ∀ {x : Bs} {n : Int}, contN (x ++ [c]) n = none := by
  intro x; induction x with
  | nil => intro n; simp only [List.nil_append, contN]; rw [if_neg (by omega)]
  | cons d x ih => intro n; simp only [List.cons_append, contN]; split
                   · exact ih
                   · rfl
theorem many_pos {b : UInt8} (h : manyOf b ≠ 0) : 2 ≤ manyOf b ∧ manyOf b ≤ 4 := by
  rcases many_cases b with ⟨hm, _⟩ | ⟨hm, _⟩ | ⟨hm, _⟩ | ⟨hm, _⟩ <;> omega
theorem runeAt_app {l : Bs} (m : Bs) (h : (runeAt l).2 ≠ 0) : runeAt (l ++ m) = runeAt l := by
  rw [← runeS_eq] at h ⊢
  rw [← runeS_eq]
  cases l with
  | nil => simp [runeS] at h
  | cons b r =>
    simp only [runeS, List.cons_append, List.length_cons, List.length_append] at h ⊢
    split
    · rfl
    · next h1 =>
      rw [if_neg h1] at h
      split
      · rfl
      · next h2 =>
        rw [if_neg h2] at h
        have hm := many_pos h2
        by_cases h3 : r.length + 1 < manyOf b
        · rw [if_pos h3] at h; simp at h
        · rw [if_neg h3, if_neg (by omega), List.take_append_of_le_length (by omega)]
theorem runeAt_snoc {l : Bs} {c : UInt8} (hc : c.toNat < 128) (hne : l ≠ []) : runeAt (l ++ [c]) = runeAt l := by
  rw [← runeS_eq, ← runeS_eq]
  cases l with
  | nil => exact absurd rfl hne
  | cons b r =>
    simp only [runeS, List.cons_append, List.length_cons, List.length_append, List.length_nil]
    split
    · rfl
    · split
      · rfl
      · next h2 =>
        have hm := many_pos h2
        by_cases h3 : r.length + 1 < manyOf b
        · rw [if_pos h3]
          by_cases h4 : r.length + 1 + 1 < manyOf b
          · rw [if_pos (by omega)]
          · rw [if_neg (by omega), List.take_of_length_le (by simp; omega), contN_snoc hc]
        · rw [if_neg h3, if_neg (by omega), List.take_append_of_le_length (by omega)]
theorem textOk_snoc {c : UInt8} (hc : c.toNat < 128) : ∀ (n : Nat) (l : Bs), l.length ≤ n → textOk (l ++ [c]) = textOk l := by
  intro n; induction n with
  | zero =>
    intro l h
    have : l = [] := List.eq_nil_of_length_eq_zero (by omega)
    subst this
    rw [List.nil_append, textOk_ascii1 hc]
  | succ n ih =>
    intro l h
    cases l with
    | nil => rw [List.nil_append, textOk_ascii1 hc]
    | cons b r =>
      have hle := runeAt_le (l := b :: r)
      rw [textOk_step (l := b :: r ++ [c]) (by simp), textOk_step (l := b :: r) (by simp), runeAt_snoc hc (by simp)]
      split
      · rfl
      · next hk =>
        rw [List.drop_append_of_le_length hle]
        exact ih _ (by rw [List.length_drop]; simp only [List.length_cons] at h ⊢; omega)
theorem textOk_app : ∀ (n : Nat) (a b : Bs), a.length ≤ n → textOk a = true → textOk (a ++ b) = textOk b := by
  intro n; induction n with
  | zero =>
    intro a b h _
    have : a = [] := List.eq_nil_of_length_eq_zero (by omega)
    subst this; rfl
  | succ n ih =>
    intro a b h ha
    cases a with
    | nil => rfl
    | cons c r =>
      have hle := runeAt_le (l := c :: r)
      rw [textOk_step (by simp)] at ha
      split at ha
      · cases ha
      · next hk =>
        rw [textOk_step (l := c :: r ++ b) (by simp), runeAt_app b hk, if_neg hk, List.drop_append_of_le_length hle]
        exact ih _ _ (by rw [List.length_drop]; simp only [List.length_cons] at h ⊢; omega) ha
theorem textOk_runeText {n : Int} (h : scalar? n = true) : textOk (runeText n) = true := by
  obtain ⟨h1, h2, h3⟩ := scalar_iff.1 h
  have hl := runeText_len (n := n)
  rw [if_neg (by simp [h])] at hl
  have hr : (runeAt (runeText n)).2 = (runeText n).length := by
    rw [← runeS_eq]
    unfold runeText
    rw [if_neg (by simp [h])]
    split
    · simp only [runeS]
      rw [if_pos (by rw [UInt8.toNat_ofNat']; omega)]; rfl
    · split
      · have b0 : (UInt8.ofNat (192 + n.toNat / 64)).toNat = 192 + n.toNat / 64 := by rw [UInt8.toNat_ofNat']; omega
        have b1 : (UInt8.ofNat (128 + n.toNat % 64)).toNat = 128 + n.toNat % 64 := by rw [UInt8.toNat_ofNat']; omega
        have hm : manyOf (UInt8.ofNat (192 + n.toNat / 64)) = 2 := by unfold manyOf; rw [b0, if_pos (by omega)]
        have hd : leadOf (UInt8.ofNat (192 + n.toNat / 64)) = n / 64 := by unfold leadOf; rw [b0, if_pos (by omega)]; omega
        simp only [runeS, hm, hd, b0, List.length_cons, List.length_nil]
        rw [if_neg (by omega), if_neg (by omega), if_neg (by omega)]
        have hc : contN [UInt8.ofNat (128 + n.toNat % 64)] (n / 64) = some n := by
          simp only [contN, b1]
          rw [if_pos (by omega)]; congr 1; omega
        simp only [Nat.add_one_sub_one, List.take_succ_cons, List.take_zero, hc]
        rw [if_pos (by rw [hl, if_neg (by omega), if_pos (by omega)])]
      · split
        · have b0 : (UInt8.ofNat (224 + n.toNat / 4096)).toNat = 224 + n.toNat / 4096 := by rw [UInt8.toNat_ofNat']; omega
          have b1 : (UInt8.ofNat (128 + n.toNat / 64 % 64)).toNat = 128 + n.toNat / 64 % 64 := by rw [UInt8.toNat_ofNat']; omega
          have b2 : (UInt8.ofNat (128 + n.toNat % 64)).toNat = 128 + n.toNat % 64 := by rw [UInt8.toNat_ofNat']; omega
          have hm : manyOf (UInt8.ofNat (224 + n.toNat / 4096)) = 3 := by unfold manyOf; rw [b0, if_neg (by omega), if_pos (by omega)]
          have hd : leadOf (UInt8.ofNat (224 + n.toNat / 4096)) = n / 4096 := by unfold leadOf; rw [b0, if_neg (by omega), if_pos (by omega)]; omega
          simp only [runeS, hm, hd, b0, List.length_cons, List.length_nil]
          rw [if_neg (by omega), if_neg (by omega), if_neg (by omega)]
          have hc : contN [UInt8.ofNat (128 + n.toNat / 64 % 64), UInt8.ofNat (128 + n.toNat % 64)] (n / 4096) = some n := by
            simp only [contN, b1, b2]
            rw [if_pos (by omega), if_pos (by omega)]; congr 1; omega
          simp only [Nat.reduceSub, List.take_succ_cons, List.take_zero, hc]
          rw [if_pos (by rw [hl, if_neg (by omega), if_neg (by omega), if_pos (by omega)])]
        · have b0 : (UInt8.ofNat (240 + n.toNat / 262144)).toNat = 240 + n.toNat / 262144 := by rw [UInt8.toNat_ofNat']; omega
          have b1 : (UInt8.ofNat (128 + n.toNat / 4096 % 64)).toNat = 128 + n.toNat / 4096 % 64 := by rw [UInt8.toNat_ofNat']; omega
          have b2 : (UInt8.ofNat (128 + n.toNat / 64 % 64)).toNat = 128 + n.toNat / 64 % 64 := by rw [UInt8.toNat_ofNat']; omega
          have b3 : (UInt8.ofNat (128 + n.toNat % 64)).toNat = 128 + n.toNat % 64 := by rw [UInt8.toNat_ofNat']; omega
          have hm : manyOf (UInt8.ofNat (240 + n.toNat / 262144)) = 4 := by unfold manyOf; rw [b0, if_neg (by omega), if_neg (by omega), if_pos (by omega)]
          have hd : leadOf (UInt8.ofNat (240 + n.toNat / 262144)) = n / 262144 := by unfold leadOf; rw [b0, if_neg (by omega), if_neg (by omega)]; omega
          simp only [runeS, hm, hd, b0, List.length_cons, List.length_nil]
          rw [if_neg (by omega), if_neg (by omega), if_neg (by omega)]
          have hc : contN [UInt8.ofNat (128 + n.toNat / 4096 % 64), UInt8.ofNat (128 + n.toNat / 64 % 64), UInt8.ofNat (128 + n.toNat % 64)] (n / 262144) = some n := by
            simp only [contN, b1, b2, b3]
            rw [if_pos (by omega), if_pos (by omega), if_pos (by omega)]; congr 1; omega
          simp only [Nat.reduceSub, List.take_succ_cons, List.take_zero, hc]
          rw [if_pos (by rw [hl, if_neg (by omega), if_neg (by omega), if_neg (by omega)])]
  have hne : runeText n ≠ [] := fun e => by rw [e] at hl; simp at hl; split at hl <;> (try split at hl) <;> (try split at hl) <;> omega
  rw [textOk_step hne, hr, List.drop_length, textOk_nil]
  rw [if_neg]
  intro e
  exact hne (List.eq_nil_of_length_eq_zero e)
theorem runeText_no {n : Int} (h : scalar? n = false) : runeText n = [] := by unfold runeText; rw [if_pos h]
theorem unS_ok : ∀ (n : Nat) (l out o : Bs), textOk out = true → unS n l out = some o → textOk o = true := by
  intro n; induction n with
  | zero =>
    intro l out o h1 h2
    cases l with
    | nil => simp only [unS, Option.some.injEq] at h2; subst h2; exact h1
    | cons b r => simp [unS] at h2
  | succ n ih =>
    intro l out o h1 h2
    cases l with
    | nil => simp only [unS, Option.some.injEq] at h2; subst h2; exact h1
    | cons b r =>
      simp only [unS] at h2
      split at h2
      · cases h2
      · refine ih _ _ _ ?_ h2
        rw [textOk_app _ _ _ (Nat.le_refl _) h1]
        cases hs : scalar? (stepS (b :: r)).1 with
        | true => exact textOk_runeText hs
        | false => rw [runeText_no hs]; rfl
theorem shutQ_split {s : Bs} (h : shutQ s = true) : s = 34 :: ((s.take (s.length - 1)).drop 1) ++ [34] ∧ 2 ≤ s.length ∧ s.length ≤ 1300 := by
  simp only [shutQ, Bool.and_eq_true, decide_eq_true_eq] at h
  obtain ⟨⟨⟨h1, h2⟩, h3⟩, h4⟩ := h
  refine ⟨?_, h1, h2⟩
  have e1 : s = s.take (s.length - 1) ++ s.drop (s.length - 1) := (List.take_append_drop _ _).symm
  have e2 : s.drop (s.length - 1) = [34] := by rw [drop_cons h4, List.drop_of_length_le (by omega)]
  have e3 : s.take (s.length - 1) = 34 :: (s.take (s.length - 1)).drop 1 := by
    have : (s.take (s.length - 1))[0]? = some 34 := by rw [List.getElem?_take, if_pos (by omega)]; exact h3
    have h5 := drop_cons this
    simpa using h5
  rw [← e3]
  conv => lhs; rw [e1, e2]
theorem textOk_inner {s : Bs} (h : shutQ s = true) : textOk s = textOk ((s.take (s.length - 1)).drop 1) := by
  have hs := (shutQ_split h).1
  generalize (s.take (s.length - 1)).drop 1 = q at *
  rw [hs, List.cons_append, textOk_ascii1 (by decide), textOk_snoc (by decide) _ _ (Nat.le_refl _)]
theorem unescS_eq (s : Bs) : unescS s = unesc s := by
  unfold unescS unesc
  cases h : shutQ s with
  | false => simp
  | true =>
    have ht := textOk_inner h
    have hl := (shutQ_split h).2
    rw [if_neg (by simp)]
    have hlen : ((s.take (s.length - 1)).drop 1).length ≤ s.length - 2 := by rw [List.length_drop, List.length_take]; omega
    obtain ⟨h1, h2⟩ := un_eq (s.length - 2) ((s.take (s.length - 1)).drop 1) [] hlen
    cases hk : textOk s with
    | false =>
      rw [hk] at ht
      rw [if_pos (.inr rfl), h2 ht.symm]
    | true =>
      rw [hk] at ht
      rw [if_neg (by simp), h1 ht.symm]
theorem unesc_ok {s : Bs} (h : (unesc s).2 = true) : textOk (unesc s).1 = true ∧ (unesc s).1.length ≤ 200 := by
  rw [← unescS_eq] at h ⊢
  unfold unescS at h ⊢
  split at h
  · cases h
  · next h1 =>
    rw [if_neg h1]
    split at h
    · cases h
    · next out h2 =>
      split at h
      · cases h
      · next h3 =>
        simp only [if_neg h3]
        exact ⟨unS_ok _ _ _ _ textOk_nil h2, by omega⟩
theorem unesc_len (s : Bs) : (unesc s).1.length ≤ 200 := by
  by_cases h : (unesc s).2 = true
  · exact (unesc_ok h).2
  · have : (unesc s).1 = [] := by
      unfold unesc at h ⊢
      split
      · rfl
      · next h1 =>
        rw [if_neg h1] at h
        split
        · rfl
        · next out h2 =>
          rw [h2] at h
          simp only at h
          split
          · rfl
          · next h3 => rw [if_neg h3] at h; exact absurd rfl h
    rw [this]; simp
/-! Where a text in quotes ends. -/
/-- How many bytes to and with the closing quote; 'odd': behind an escape's sign. -/
def strG : Bool → Bs → Option Nat
  | _, [] => none
  | odd, b :: r => if b = 10 ∨ b = 13 then none else if b = 34 ∧ odd = false then some 1 else (strG (decide (b = 92) && !odd) r).map (· + 1)
theorem strG_le : ∀ {l : Bs} {odd : Bool} {k : Nat}, strG odd l = some k → 1 ≤ k ∧ k ≤ l.length := by
  intro l; induction l with
  | nil => intro odd k h; simp [strG] at h
  | cons b r ih =>
    intro odd k h
    simp only [strG] at h
    split at h
    · cases h
    · split at h
      · simp only [Option.some.injEq] at h; subst h; simp
      · cases h2 : strG (decide (b = 92) && !odd) r with
        | none => rw [h2] at h; cases h
        | some j =>
          rw [h2] at h
          simp only [Option.map_some, Option.some.injEq] at h
          have := ih h2
          simp only [List.length_cons]; omega
/-- Where the text in quotes that begins at a place ends; -1. -/
def strEnd (s : Bs) (i : Nat) : Int := if s[i]? = some 34 then (match strG false (s.drop (i + 1)) with | none => -1 | some k => ((i + 1 + k : Nat) : Int)) else -1
theorem strEnd_cases (s : Bs) (i : Nat) : strEnd s i = -1 ∨ ∃ k : Nat, strEnd s i = k ∧ i + 2 ≤ k ∧ k ≤ s.length ∧ s[i]? = some 34 := by
  unfold strEnd
  split
  · next h =>
    split
    · exact .inl rfl
    · next k hk =>
      have := strG_le hk
      rw [List.length_drop] at this
      exact .inr ⟨_, rfl, by omega, by omega, h⟩
  · exact .inl rfl
/-- Is there a long escape, or a byte 9? -/
def longG : Bool → Bs → Bool
  | _, [] => false
  | true, _ :: r => longG false r
  | false, b :: r => if b = 9 then true else if b = 92 then (([117, 123] : Bs).isPrefixOf r || longG true r) else longG false r
end Go.Proofs.YtkefgpmnimpcdaaGreatDoor.Abs
