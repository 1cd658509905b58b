/- Texts in quotes: what they are: the reference's. No condition. -/
import Derived.Test.YtkefgpmnimpcdaaGreatDoorTxH
set_option linter.unusedVariables false
set_option linter.unusedSimpArgs false
namespace Go.Proofs.YtkefgpmnimpcdaaGreatDoor.Abs
open Go
set_option maxHeartbeats 2000000
set_option maxRecDepth 100000
@[simp] theorem shareL_encB (l : Bs) : shareL (encB l) = encB l := by
  induction l with
  | nil => rfl
  | cons b l ih => simp [ih]
theorem lRune_or (l : Bs) : lRune l = (-1, 0) ∨ (0 ≤ (lRune l).1 ∧ 2 ≤ (lRune l).2) := by
  match l with
  | [] => exact .inl rfl
  | [_] => exact .inl rfl
  | a :: b :: r =>
    generalize hv : lRune (a :: b :: r) = v
    simp only [lRune] at hv
    by_cases c1 : b = 34 ∨ b = 92 ∨ b = 47
    · rw [if_pos c1] at hv; subst hv; exact .inr ⟨by simp, by simp⟩
    rw [if_neg c1] at hv
    by_cases c2 : b = 98
    · rw [if_pos c2] at hv; subst hv; exact .inr ⟨by simp, by simp⟩
    rw [if_neg c2] at hv
    by_cases c3 : b = 116
    · rw [if_pos c3] at hv; subst hv; exact .inr ⟨by simp, by simp⟩
    rw [if_neg c3] at hv
    by_cases c4 : b = 110
    · rw [if_pos c4] at hv; subst hv; exact .inr ⟨by simp, by simp⟩
    rw [if_neg c4] at hv
    by_cases c5 : b = 102
    · rw [if_pos c5] at hv; subst hv; exact .inr ⟨by simp, by simp⟩
    rw [if_neg c5] at hv
    by_cases c6 : b = 114
    · rw [if_pos c6] at hv; subst hv; exact .inr ⟨by simp, by simp⟩
    rw [if_neg c6] at hv
    by_cases c7 : b ≠ 117
    · rw [if_pos c7] at hv; exact .inl hv.symm
    rw [if_neg c7] at hv
    by_cases c8 : r[0]? = some 123
    · rw [if_pos c8] at hv
      by_cases c9 : runH 7 (r.drop 1) = 0 ∨ 6 < runH 7 (r.drop 1) ∨ r[runH 7 (r.drop 1) + 1]? ≠ some 125 ∨ scalar? (numS (r.drop 1) (runH 7 (r.drop 1))) = false
      · rw [if_pos c9] at hv; exact .inl hv.symm
      · rw [if_neg c9] at hv
        have h1 : scalar? (numS (r.drop 1) (runH 7 (r.drop 1))) = true := by
          cases hs : scalar? (numS (r.drop 1) (runH 7 (r.drop 1))) with
          | true => rfl
          | false => exact absurd (.inr (.inr (.inr hs))) c9
        subst hv
        exact .inr ⟨(scalar_iff.1 h1).1, by simp⟩
    rw [if_neg c8] at hv
    by_cases c9 : numS r 4 < 0
    · rw [if_pos c9] at hv; exact .inl hv.symm
    rw [if_neg c9] at hv
    by_cases c10 : inR (numS r 4) 55296 56319 = true ∧ r[4]? = some 92 ∧ r[5]? = some 117
    · rw [if_pos c10] at hv
      by_cases c11 : inR (numS (r.drop 6) 4) 56320 57343 = false
      · rw [if_pos c11] at hv; exact .inl hv.symm
      · rw [if_neg c11] at hv
        have h1 := c10.1
        simp only [inR, Bool.and_eq_true, decide_eq_true_eq, Bool.not_eq_false] at h1 c11
        subst hv
        exact .inr ⟨by simp only; omega, by simp⟩
    rw [if_neg c10] at hv
    by_cases c11 : scalar? (numS r 4) = false
    · rw [if_pos c11] at hv; exact .inl hv.symm
    · rw [if_neg c11] at hv
      subst hv; exact .inr ⟨by simp only; omega, by simp⟩
theorem lRune_neg {l : Bs} (h : (lRune l).1 < 0) : (lRune l).2 = 0 := by
  rcases lRune_or l with e | ⟨e, _⟩
  · rw [e]
  · omega
theorem lRune_pos {l : Bs} (h : ¬ (lRune l).1 < 0) : 0 < (lRune l).2 := by
  rcases lRune_or l with e | ⟨_, e⟩
  · rw [e] at h; exact absurd (by decide) h
  · omega
theorem stepS_pos {l : Bs} (h : ¬ (stepS l).1 < 0) : 0 < (stepS l).2 := by
  unfold stepS at h ⊢
  split
  · next h1 => rw [if_pos h1] at h; exact lRune_pos h
  · next h1 =>
    rw [if_neg h1] at h
    split
    · next h2 => rw [if_pos h2] at h; exact absurd (show (-1 : Int) < 0 by decide) h
    · next h2 =>
      rw [if_neg h2] at h
      have := runeAt_neg (l := l)
      omega
theorem lRune_le {l : Bs} (hl : l ≠ []) : (lRune l).2 ≤ l.length := by
  cases l with
  | nil => exact absurd rfl hl
  | cons a r =>
    obtain ⟨h1, h2⟩ := esc_eq r
    have h92 : (lRune (a :: r)) = lRune (92 :: r) := by cases r <;> rfl
    rw [h92]
    cases h : (rEsc r).2.2 with
    | true =>
      obtain ⟨g1, _, _, g4, g5, _⟩ := h1 h
      rw [g1]; simp only [List.length_cons]; omega
    | false =>
      have h3 := h2 h
      have := lRune_neg h3
      omega
theorem unS_fuel : ∀ (n m : Nat) (l out : Bs), l.length ≤ n → l.length ≤ m → unS n l out = unS m l out := by
  intro n; induction n with
  | zero =>
    intro m l out h _
    have : l = [] := List.eq_nil_of_length_eq_zero (by omega)
    subst this
    cases m <;> simp [unS]
  | succ n ih =>
    intro m l out hn hm
    cases l with
    | nil => cases m <;> simp [unS]
    | cons b r =>
      cases m with
      | zero => simp at hm
      | succ m =>
        simp only [List.length_cons] at hn hm
        simp only [unS]
        split
        · rfl
        · next h =>
          have h0 := stepS_pos h
          exact ih m _ _ (by rw [List.length_drop]; simp only [List.length_cons]; omega) (by rw [List.length_drop]; simp only [List.length_cons]; omega)

theorem c_UnescapedS (s : Bs) (hs : s.length ≤ 100000000) (K) : Ct Tryz.prog 144 [.str s] K (.tup [.str (unesc s).1, .bool (unesc s).2]) K := by
  rw [← unescS_eq]
  generalize hr : unescS s = r
  unfold unescS at hr
  have hq : shutQ s = (decide (2 ≤ s.length) && decide (s.length ≤ 1300) && decide (s[0]? = some 34) && decide (s[s.length - 1]? = some 34)) := rfl
  refine ct_fn { n0 := 10, ex := [], tk := [36, 49, 55, 73, 75, 76] } Tryz.func144 rfl (by kernel_rfl) (by kernel_rfl) rfl ?_
  rcases (by omega : s.length < 2 ∨ (2 ≤ s.length ∧ 1300 < s.length) ∨ (2 ≤ s.length ∧ s.length ≤ 1300)) with h2 | ⟨h2, h3⟩ | ⟨h2, h3⟩
  · rw [decide_eq_false (by omega)] at hq
    rw [if_pos (by simpa using hq)] at hr
    simp -implicitDefEqProofs [Tryz.f144, eq_true (show (s.length : Int) < 2 by omega), ← hr]
  · rw [decide_eq_false (show ¬ s.length ≤ 1300 by omega)] at hq
    rw [if_pos (by simpa using hq)] at hr
    simp -implicitDefEqProofs [Tryz.f144, eq_false (show ¬ (s.length : Int) < 2 by omega), eq_true (show (1300 : Int) < s.length by omega), ← hr]
  · have hlt0 : 0 < s.length := by omega
    obtain ⟨b, hb⟩ : ∃ b, s[0]? = some b := ⟨_, List.getElem?_eq_getElem hlt0⟩
    obtain ⟨c, hc⟩ : ∃ c, s[s.length - 1]? = some c := ⟨_, List.getElem?_eq_getElem (by omega)⟩
    have hbe : s[0]'hlt0 = b := (List.getElem?_eq_some_iff.1 hb).2
    have b34 : (b.toNat : Int) = 34 ↔ b = 34 := u8_eq (c := 34)
    have c34 : (c.toNat : Int) = 34 ↔ c = 34 := u8_eq (c := 34)
    obtain ⟨z, hz⟩ : ∃ z, z = s.length - 1 := ⟨_, rfl⟩
    have w1 : IntKind.i64.wrap ((s.length : Int) - 1) = (z : Int) := by rw [wrap64 (by omega) (by omega)]; omega
    rw [decide_eq_true h2, decide_eq_true h3, hb, hc] at hq
    rw [← hz] at hc hr
    have hzl : z < s.length := by omega
    have hce : s[z]'hzl = c := (List.getElem?_eq_some_iff.1 hc).2
    simp -implicitDefEqProofs [Tryz.f144, eq_false (show ¬ (s.length : Int) < 2 by omega), eq_false (show ¬ (1300 : Int) < s.length by omega), hlt0, hbe, hb, hc, hce, w1, b34, c34, hzl]
    refine fun _ _ => ⟨fun h => ?_, fun hb3 hc3 _ => ⟨⟨by omega, by omega⟩, ?_⟩⟩
    · rw [if_pos (by rw [hq]; rcases h with h | h <;> simp [h])] at hr
      simp [← hr]
    · rw [if_neg (by rw [hq, hb3, hc3]; simp)] at hr
      rw [List.drop_one] at hr
      have hil : ((s.take z).tail).length = s.length - 2 := by rw [List.length_tail, List.length_take]; omega
      generalize hT : unS (s.length - 2) ((s.take z).tail) [] = T at hr
      rw [← hil] at hT
      generalize (s.take z).tail = inner at *
      have bad : T = none → r = ([], false) := by intro e; rw [e] at hr; exact hr.symm
      obtain ⟨I, hI⟩ : ∃ I : Nat → St → Prop, ∀ m st, I m st ↔ ∃ (i : Nat) (out : Bs), i ≤ inner.length ∧ m = inner.length - i ∧ unS (inner.length - i) (inner.drop i) out = T ∧ out.length ≤ 4 * i ∧
        st = { env := [(0, .str s), (2, .str []), (3, .bool false), (4, .str inner), (5, .sl (.of 5) out.length (encB out)), (6, .int .i64 i)], loc := [], K := [] :: K } := ⟨_, fun _ _ => Iff.rfl⟩
      refine wC_loopI I inner.length ((hI _ _).2 ⟨0, [], by omega, rfl, hT, by simp, rfl⟩) (St.le_of (by simp) (by simp) rfl (by simp)) ?_
      intro m st hst
      obtain ⟨i, out, hi, rfl, hu, hb2, rfl⟩ := (hI _ _).1 hst
      rcases Nat.lt_or_ge i inner.length with hlt | hge
      · obtain ⟨d, hd⟩ : ∃ d, inner[i]? = some d := ⟨_, List.getElem?_eq_getElem hlt⟩
        have hde : inner[i]'hlt = d := (List.getElem?_eq_some_iff.1 hd).2
        have d92 : (d.toNat : Int) = 92 ↔ d = 92 := u8_eq (c := 92)
        obtain ⟨k, hk⟩ : ∃ k, inner.length - i = k + 1 := ⟨inner.length - i - 1, by omega⟩
        have hdd := drop_cons hd
        rw [hk, hdd] at hu
        simp only [unS] at hu
        rw [← hdd] at hu
        have hc1 := fun K => c_l04Rune inner i (by omega) hlt K
        have hc2 := fun K => c_RuneAtS inner i K (by omega) (by omega)
        have hle1 := lRune_le (l := inner.drop i) (by rw [hdd]; simp)
        have hle2 := runeAt_le (l := inner.drop i)
        rw [List.length_drop] at hle1 hle2
        have hpos := stepS_pos (l := inner.drop i)
        have hS : stepS (inner.drop i) = if d = 92 then lRune (inner.drop i) else if (runeAt (inner.drop i)).1 = 34 ∨ ((runeAt (inner.drop i)).1 < 32 ∧ (runeAt (inner.drop i)).1 ≠ 9) then (-1, (runeAt (inner.drop i)).2) else runeAt (inner.drop i) := by
          unfold stepS; rw [hdd]; simp only [List.getElem?_cons_zero, Option.some.injEq]
        have nxt : ∀ (n : Int) (j : Nat), stepS (inner.drop i) = (n, j) → j ≤ inner.length - i → ¬ n < 0 → ∀ (l e : List (Nat × AC)) (u : Int), u = ((i + j : Nat) : Int) → (e = [] ∨ ∃ v, e = [(9, v)]) → ∀ v7 v8, roundK I (inner.length - i) 0 { env := [(0, .str s), (2, .str []), (3, .bool false), (4, .str inner), (5, .sl (.of 5) (out.length + (runeText n).length) (encB out ++ encB (runeText n))), (6, .int .i64 u), (7, v7), (8, v8)] ++ e, loc := l, K := [] :: K } := by
          rintro n j hj hjl hn l e u rfl he v7 v8
          rw [hj] at hu hpos
          rw [if_neg hn] at hu
          have hp := hpos hn
          have h4 := runeText_len4 n
          refine ⟨inner.length - (i + j), by omega, _, St.le_of (by simp) ?_ rfl (by simp [St.trunc, mapC]), (hI _ _).2 ⟨i + j, out ++ runeText n, by omega, rfl, ?_, by rw [List.length_append]; omega, rfl⟩⟩
          · rcases he with rfl | ⟨v, rfl⟩ <;> simp [St.trunc, look, mapV, mapC, killP]
          · rw [← hu, List.drop_drop]
            exact unS_fuel _ _ _ _ (by rw [List.length_drop]; omega) (by rw [List.length_drop]; omega)
        have wr : ∀ j : Nat, j ≤ inner.length - i → IntKind.i64.wrap ((i : Int) + j) = ((i + j : Nat) : Int) := fun j hj => by rw [wrap64 (by omega) (by omega)]; omega
        simp -implicitDefEqProofs [hlt, hde, hd, d92]
        refine fun _ => ⟨fun h92 => ?_, fun h92 => ?_⟩
        · rw [if_pos h92] at hS
          refine callK_of (hc1 _) ?_
          generalize lRune (inner.drop i) = q at *
          simp -implicitDefEqProofs
          refine ⟨fun hn => ?_, fun hn => ?_⟩
          · rw [hS, if_pos hn] at hu
            simp [bad hu.symm]
          · refine callK_of (c_RuneText q.1 _) ?_
            have h4 := runeText_len4 q.1
            simp -implicitDefEqProofs
            exact ⟨by unfold maxLen; omega, by omega, nxt q.1 q.2 hS hle1 (by omega) _ [] _ (by omega) (.inl rfl) _ _⟩
        · rw [if_neg h92] at hS
          refine callK_of (hc2 _) ?_
          generalize runeAt (inner.drop i) = q at *
          simp -implicitDefEqProofs [wr q.2 (by omega)]
          refine ⟨fun hn => ?_, fun h34 h9 => ⟨fun hn => ?_, fun hn => ?_⟩⟩
          · rw [hS, if_pos hn, if_pos (by simp)] at hu
            simp [bad hu.symm]
          · exact absurd (h9 (by omega)) (by omega)
          · rw [if_neg (by omega)] at hS
            refine callK_of (c_RuneText q.1 _) ?_
            have h4 := runeText_len4 q.1
            simp -implicitDefEqProofs
            exact ⟨by unfold maxLen; omega, by omega, nxt q.1 q.2 hS hle2 (by omega) _ [(9, _)] _ (by omega) (.inr ⟨_, rfl⟩) _ _⟩
      · have e : i = inner.length := by omega
        subst e
        rw [Nat.sub_self, List.drop_of_length_le (Nat.le_refl _)] at hu
        simp only [unS] at hu
        rw [← hu] at hr
        simp only at hr
        simp -implicitDefEqProofs
        refine fun _ _ => ⟨fun h => ?_, fun h => ⟨by unfold maxLen; omega, ?_⟩⟩
        · rw [if_pos (by omega)] at hr; simp [← hr]
        · rw [if_neg (by omega)] at hr; simp [← hr]
end Go.Proofs.YtkefgpmnimpcdaaGreatDoor.Abs
