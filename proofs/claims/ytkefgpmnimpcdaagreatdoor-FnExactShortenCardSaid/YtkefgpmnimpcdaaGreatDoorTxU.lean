/- Texts in quotes: where they end, what they are: plain functions and laws. No condition. -/
import Derived.Lib.MapLaws
import Derived.Test.YtkefgpmnimpcdaaGreatDoorTxP
set_option linter.unusedVariables false
set_option linter.unusedSimpArgs false
namespace Go.Proofs.YtkefgpmnimpcdaaGreatDoor.Abs
open Go
set_option maxRecDepth 100000
/-! Hex figures. -/
def hexV (b : UInt8) : Int := if 48 ≤ b.toNat ∧ b.toNat ≤ 57 then b.toNat - 48 else if 97 ≤ b.toNat ∧ b.toNat ≤ 102 then b.toNat - 87 else if 65 ≤ b.toNat ∧ b.toNat ≤ 70 then b.toNat - 55 else -1
theorem hexV_lt (b : UInt8) : -1 ≤ hexV b ∧ hexV b < 16 := by unfold hexV; repeat' split <;> omega
/-- What hex figures are, behind the number n; none where one is none. -/
def hexN : Bs → Int → Option Int
  | [], n => some n
  | b :: r, n => if hexV b < 0 then none else hexN r (16 * n + hexV b)
theorem hexN_bound : ∀ {s : Bs} {n m : Int}, 0 ≤ n → hexN s n = some m → 0 ≤ m ∧ m < (n + 1) * 16 ^ s.length := by
  intro s; induction s with
  | nil => intro n m hn h; simp only [hexN, Option.some.injEq] at h; subst h; simp; omega
  | cons b r ih =>
    intro n m hn h
    simp only [hexN] at h
    have hv := hexV_lt b
    split at h
    · cases h
    · have h2 := ih (by omega) h
      refine ⟨h2.1, Int.lt_of_lt_of_le h2.2 ?_⟩
      rw [List.length_cons, Int.pow_succ, ← Int.mul_assoc, Int.mul_right_comm]
      exact Int.mul_le_mul_of_nonneg_right (by omega) (by exact Int.le_of_lt (Int.pow_pos (by decide)))
/-- The number of hex figures; is it one? -/
def rHex (s : Bs) : Int × Bool := match hexN s 0 with
  | none => (0, false)
  | some n => (n, decide (s ≠ []))
def rFour (s : Bs) : Int × Bool := if s.length < 4 then (0, false) else rHex (s.take 4)
def inR (n a b : Int) : Bool := decide (a ≤ n) && decide (n ≤ b)
/-- What stands behind the escape u: the scalar, how many bytes, whether it is one. -/
def rUni (s : Bs) : Int × Int × Bool :=
  if ([123] : Bs).isPrefixOf s then
    if inR (Lib.indexByte s 125) 2 7 = false then (0, 0, false) else
      ((rHex ((s.take (Lib.indexByte s 125).toNat).drop 1)).1, Lib.indexByte s 125 + 1, (rHex ((s.take (Lib.indexByte s 125).toNat).drop 1)).2 && scalar? (rHex ((s.take (Lib.indexByte s 125).toNat).drop 1)).1)
  else if (rFour s).2 = false ∨ inR (rFour s).1 55296 56319 = false then ((rFour s).1, 4, (rFour s).2 && scalar? (rFour s).1)
  else if ([92, 117] : Bs).isPrefixOf (s.drop 4) = false then (0, 0, false)
  else (65536 + 1024 * ((rFour s).1 - 55296) + (rFour (s.drop 6)).1 - 56320, 10, (rFour (s.drop 6)).2 && inR (rFour (s.drop 6)).1 56320 57343)
/-- What an escape is, behind its sign; how many bytes; whether it is one. -/
def rEsc (s : Bs) : Bs × Int × Bool := match s with
  | [] => ([], 0, false)
  | b :: r => if b = 117 then (runeText (rUni r).1, (rUni r).2.1 + 1, (rUni r).2.2)
    else if b = 47 then ([47], 1, true)
    else if Lib.indexByte escOut b < 0 then ([], 0, false)
    else ((escIn.take ((Lib.indexByte escOut b).toNat + 1)).drop (Lib.indexByte escOut b).toNat, 1, true)
/-- The program's way through what stands between the quotes. -/
def unI : Nat → Bs → Bs → Option Bs
  | _, [], out => some out
  | 0, _ :: _, _ => none
  | n + 1, b :: r, out => if b = 34 ∨ (b.toNat < 32 ∧ b ≠ 9) then none
    else if b = 92 then (if (rEsc r).2.2 then unI n (r.drop (rEsc r).2.1.toNat) (out ++ (rEsc r).1) else none)
    else unI n r (out ++ [b])
def shutQ (s : Bs) : Bool := decide (2 ≤ s.length) && decide (s.length ≤ 1300) && decide (s[0]? = some 34) && decide (s[s.length - 1]? = some 34)
def unesc (s : Bs) : Bs × Bool := if shutQ s = false ∨ textOk s = false then ([], false) else
  match unI (s.length - 2) ((s.take (s.length - 1)).drop 1) [] with
  | none => ([], false)
  | some out => if 200 < out.length then ([], false) else (out, true)
/-! The reference's. -/
def numS (s : Bs) (k : Nat) : Int := if s.length < k then -1 else (hexN (s.take k) 0).getD (-1)
def runH : Nat → Bs → Nat
  | 0, _ => 0
  | _ + 1, [] => 0
  | n + 1, b :: r => if hexV b < 0 then 0 else runH n r + 1
/-- What an escape is, of the text from its sign on, and how many bytes; (-1, 0) where it is none. -/
def lRune (l : Bs) : Int × Nat := match l with
  | [] => (-1, 0)
  | [_] => (-1, 0)
  | _ :: b :: r => if b = 34 ∨ b = 92 ∨ b = 47 then (b.toNat, 2) else if b = 98 then (8, 2) else if b = 116 then (9, 2) else if b = 110 then (10, 2) else if b = 102 then (12, 2) else if b = 114 then (13, 2)
    else if b ≠ 117 then (-1, 0)
    else if r[0]? = some 123 then
      (if runH 7 (r.drop 1) = 0 ∨ 6 < runH 7 (r.drop 1) ∨ r[runH 7 (r.drop 1) + 1]? ≠ some 125 ∨ scalar? (numS (r.drop 1) (runH 7 (r.drop 1))) = false then (-1, 0)
        else (numS (r.drop 1) (runH 7 (r.drop 1)), runH 7 (r.drop 1) + 4))
    else if numS r 4 < 0 then (-1, 0)
    else if inR (numS r 4) 55296 56319 = true ∧ r[4]? = some 92 ∧ r[5]? = some 117 then
      (if inR (numS (r.drop 6) 4) 56320 57343 = false then (-1, 0) else (65536 + 1024 * (numS r 4 - 55296) + numS (r.drop 6) 4 - 56320, 12))
    else if scalar? (numS r 4) = false then (-1, 0)
    else (numS r 4, 6)
/-- The reference's step: a rune, and how many bytes. -/
def stepS (l : Bs) : Int × Nat := if l[0]? = some 92 then lRune l else if (runeAt l).1 = 34 ∨ ((runeAt l).1 < 32 ∧ (runeAt l).1 ≠ 9) then (-1, (runeAt l).2) else runeAt l
def unS : Nat → Bs → Bs → Option Bs
  | _, [], out => some out
  | 0, _ :: _, _ => none
  | n + 1, b :: r, out => if (stepS (b :: r)).1 < 0 then none else unS n ((b :: r).drop (stepS (b :: r)).2) (out ++ runeText (stepS (b :: r)).1)
def unescS (s : Bs) : Bs × Bool := if shutQ s = false then ([], false) else
  match unS (s.length - 2) ((s.take (s.length - 1)).drop 1) [] with
  | none => ([], false)
  | some out => if 200 < out.length then ([], false) else (out, true)
/-! They are one. -/
theorem runeText_ascii {b : UInt8} (h : b.toNat < 128) : runeText b.toNat = [b] := by
  have h2 := scalar_iff (n := (b.toNat : Int))
  unfold runeText
  rw [if_neg (by simp [h2.2 ⟨by omega, by omega, by omega⟩]), if_pos (by omega)]
  simp
theorem runeAt_ascii {b : UInt8} {r : Bs} (h : b.toNat < 128) : runeAt (b :: r) = ((b.toNat : Int), 1) := by
  rw [← runeS_eq]; simp [runeS, h]
theorem textOk_ascii1 {b : UInt8} {r : Bs} (h : b.toNat < 128) : textOk (b :: r) = textOk r := by
  rw [textOk_step (by simp), runeAt_ascii h]; simp
theorem textOk_ascii : ∀ {k : Nat} {l : Bs}, (∀ b ∈ l.take k, b.toNat < 128) → textOk l = textOk (l.drop k) := by
  intro k; induction k with
  | zero => intro l _; simp
  | succ k ih =>
    intro l h
    cases l with
    | nil => simp
    | cons b r =>
      rw [textOk_ascii1 (h b (by simp)), List.drop_succ_cons]
      exact ih fun c hc => h c (by simp [hc])
theorem encode_runeText {n : Int} (h : scalar? n = true) : Lib.encodeRune n = runeText n := by
  obtain ⟨h1, h2, h3⟩ := scalar_iff.1 h
  unfold Lib.encodeRune runeText
  rw [if_neg (by simp [h])]
  have e : ∀ x : Int, 0 ≤ x → x.toNat.toUInt8 = UInt8.ofNat x.toNat := fun _ _ => rfl
  split
  · rw [Lib.encodeRuneZ_one (by omega) (by omega)]; rfl
  · split
    · rw [Lib.encodeRuneZ_two (by omega) (by omega)]
      simp only [List.map_cons, List.map_nil]
      rw [show (192 + n / 64).toNat = 192 + n.toNat / 64 by omega, show (128 + n % 64).toNat = 128 + n.toNat % 64 by omega]
    · split
      · rw [Lib.encodeRuneZ_three (by omega)]
        simp only [List.map_cons, List.map_nil]
        rw [show (224 + n / 4096).toNat = 224 + n.toNat / 4096 by omega, show (128 + n / 64 % 64).toNat = 128 + n.toNat / 64 % 64 by omega, show (128 + n % 64).toNat = 128 + n.toNat % 64 by omega]
      · rw [Lib.encodeRuneZ_four (by omega) (by omega)]
        simp only [List.map_cons, List.map_nil]
        rw [show (240 + n / 262144).toNat = 240 + n.toNat / 262144 by omega, show (128 + n / 4096 % 64).toNat = 128 + n.toNat / 4096 % 64 by omega, show (128 + n / 64 % 64).toNat = 128 + n.toNat / 64 % 64 by omega, show (128 + n % 64).toNat = 128 + n.toNat % 64 by omega]
theorem scalar_decode {l : Bs} (h : (runeAt l).2 ≠ 0) : scalar? (runeAt l).1 = true := by
  have hs := runeS_eq l
  rw [← hs] at h ⊢
  cases l with
  | nil => simp [runeS] at h
  | cons b r =>
    simp only [runeS] at h ⊢
    split
    · rw [scalar_iff]; simp only; omega
    · next h1 =>
      rw [if_neg h1] at h
      split at h
      · simp at h
      · next h2 =>
        rw [if_neg h2]
        split at h
        · simp at h
        · next h3 =>
          rw [if_neg h3]
          split
          · next h4 => rw [h4] at h; simp at h
          · next n h4 =>
            rw [h4] at h
            simp only at h
            split at h
            · next h5 =>
              rw [if_pos h5]
              have := runeText_len (n := n)
              cases hsc : scalar? n with
              | true => rfl
              | false => rw [hsc, if_pos rfl] at this; omega
            · simp at h
theorem runeText_runeAt {l : Bs} (h : (runeAt l).2 ≠ 0) : runeText (runeAt l).1 = l.take (runeAt l).2 := by
  have hsc := scalar_decode h
  rw [← encode_runeText hsc]
  unfold runeAt at h ⊢
  split
  · next h1 => rw [if_pos h1] at h; simp at h
  · next h1 =>
    rw [if_neg h1] at h
    split
    · next h2 => rw [if_pos h2] at h; simp at h
    · next h2 => exact Lib.encode_decode l h1 h2
/-- The bytes of a rune that is not ASCII. -/
theorem high_bytes {b : UInt8} {r : Bs} (h : 128 ≤ b.toNat) (hk : (runeAt (b :: r)).2 ≠ 0) : (∀ c ∈ (b :: r).take (runeAt (b :: r)).2, 128 ≤ c.toNat) ∧ 128 ≤ (runeAt (b :: r)).1 := by
  have hsc := scalar_decode hk
  have ht := runeText_runeAt hk
  obtain ⟨h1, h2, h3⟩ := scalar_iff.1 hsc
  have h0 : 128 ≤ (runeAt (b :: r)).1 := by
    refine Int.not_lt.1 fun hlt => ?_
    unfold runeText at ht
    rw [if_neg (by simp [hsc]), if_pos (by omega)] at ht
    obtain ⟨k, hk2⟩ : ∃ k, (runeAt (b :: r)).2 = k + 1 := ⟨(runeAt (b :: r)).2 - 1, by omega⟩
    rw [hk2, List.take_succ_cons] at ht
    have e := congrArg UInt8.toNat (List.cons.inj ht).1
    rw [UInt8.toNat_ofNat'] at e
    omega
  refine ⟨?_, h0⟩
  rw [← ht]
  intro c hc
  unfold runeText at hc
  rw [if_neg (by simp [hsc]), if_neg (by omega)] at hc
  split at hc
  · simp only [List.mem_cons, List.not_mem_nil, or_false] at hc
    rcases hc with rfl | rfl <;> rw [UInt8.toNat_ofNat'] <;> omega
  · split at hc
    · simp only [List.mem_cons, List.not_mem_nil, or_false] at hc
      rcases hc with rfl | rfl | rfl <;> rw [UInt8.toNat_ofNat'] <;> omega
    · simp only [List.mem_cons, List.not_mem_nil, or_false] at hc
      rcases hc with rfl | rfl | rfl | rfl <;> rw [UInt8.toNat_ofNat'] <;> omega
theorem unI_high : ∀ (k : Nat) (n : Nat) (l out : Bs), k ≤ l.length → (∀ c ∈ l.take k, 128 ≤ c.toNat) → unI (n + k) l out = unI n (l.drop k) (out ++ l.take k) := by
  intro k; induction k with
  | zero => intro n l out _ _; simp
  | succ k ih =>
    intro n l out hk h
    cases l with
    | nil => simp at hk
    | cons b r =>
      have hb := h b (by simp)
      rw [show n + (k + 1) = (n + k) + 1 by omega]
      simp only [unI]
      rw [if_neg (by rintro (rfl | h2); · exact absurd hb (by decide)
                     · omega), if_neg (by rintro rfl; exact absurd hb (by decide)), ih n r (out ++ [b]) (by simpa using hk) (fun c hc => h c (by simp [hc]))]
      simp
theorem unI_fuel : ∀ (n m : Nat) (l out : Bs), l.length ≤ n → l.length ≤ m → unI n l out = unI m l out := by
  intro n; induction n with
  | zero =>
    intro m l out h _
    have : l = [] := List.eq_nil_of_length_eq_zero (by omega)
    subst this
    cases m <;> simp [unI]
  | succ n ih =>
    intro m l out hn hm
    cases l with
    | nil => cases m <;> simp [unI]
    | cons b r =>
      cases m with
      | zero => simp at hm
      | succ m =>
        simp only [List.length_cons] at hn hm
        simp only [unI]
        rw [ih m (r.drop (rEsc r).2.1.toNat) _ (by rw [List.length_drop]; omega) (by rw [List.length_drop]; omega), ih m r _ (by omega) (by omega)]
end Go.Proofs.YtkefgpmnimpcdaaGreatDoor.Abs
