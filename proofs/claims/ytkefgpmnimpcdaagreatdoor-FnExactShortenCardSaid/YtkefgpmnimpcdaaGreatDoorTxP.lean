/- Texts: bytes, runes, escapes, names, numbers: plain functions and laws. No condition. -/
import Derived.Lib.ValidU
import Derived.Lib.TrimUEq
import Derived.Lib.Bytealg
import Derived.Test.YtkefgpmnimpcdaaGreatDoorTr
set_option linter.unusedVariables false
set_option linter.unusedSimpArgs false
namespace Go.Proofs.YtkefgpmnimpcdaaGreatDoor.Abs
open Go
set_option maxRecDepth 100000
theorem u8_all {p : UInt8 → Prop} [DecidablePred p] (h : ∀ n : Fin 256, p (UInt8.ofNat n.val)) (b : UInt8) : p b := by
  have := h ⟨b.toNat, b.toNat_lt⟩
  simpa using this
/-- Bytes as cells. -/
def encB (l : Bs) : List AC := l.map fun b => .int .u8 b.toNat
@[simp] theorem encB_len {l : Bs} : (encB l).length = l.length := by simp [encB]
@[simp] theorem encB_nil : encB [] = [] := rfl
@[simp] theorem encB_cons {b : UInt8} {l : Bs} : encB (b :: l) = .int .u8 b.toNat :: encB l := rfl
@[simp] theorem encB_app {a b : Bs} : encB (a ++ b) = encB a ++ encB b := by simp [encB]
@[simp] theorem bytesOf_encB : ∀ l : Bs, bytesOf (encB l) = some l := by
  intro l; induction l with
  | nil => rfl
  | cons b l ih =>
    show (bytesOf (encB l)).map (UInt8.ofNat ((b.toNat : Int)).toNat :: ·) = _
    rw [ih]; simp
@[simp] theorem bytesOf_app (a : Bs) (cs : List AC) : bytesOf (encB a ++ cs) = (bytesOf cs).map (a ++ ·) := by
  induction a with
  | nil => cases h : bytesOf cs <;> simp [h]
  | cons b l ih =>
    show (bytesOf (encB l ++ cs)).map (UInt8.ofNat ((b.toNat : Int)).toNat :: ·) = _
    rw [ih]; cases bytesOf cs <;> simp
@[simp] theorem encB_flat {l : Bs} : (encB l).all flat = true := by simp [encB, flat]
/-- What Go reads at the beginning of a text: the rune and its width; (-1, 0) where there is none. -/
def runeAt (l : Bs) : Int × Nat := if l = [] then (-1, 0) else if (Lib.decodeL l).1 = 65533 ∧ (Lib.decodeL l).2 = 1 then (-1, 0) else ((Lib.decodeL l).1, (Lib.decodeL l).2)
def scalar? (n : Int) : Bool := decide (0 ≤ n) && decide (n ≤ 1114111) && !(decide (55296 ≤ n) && decide (n ≤ 57343))
def runeText (n : Int) : Bs :=
  if scalar? n = false then [] else
  if n < 128 then [UInt8.ofNat n.toNat] else
  if n < 2048 then [UInt8.ofNat (192 + n.toNat / 64), UInt8.ofNat (128 + n.toNat % 64)] else
  if n < 65536 then [UInt8.ofNat (224 + n.toNat / 4096), UInt8.ofNat (128 + n.toNat / 64 % 64), UInt8.ofNat (128 + n.toNat % 64)] else
  [UInt8.ofNat (240 + n.toNat / 262144), UInt8.ofNat (128 + n.toNat / 4096 % 64), UInt8.ofNat (128 + n.toNat / 64 % 64), UInt8.ofNat (128 + n.toNat % 64)]
def textOk (s : Bs) : Bool := Lib.validD s
theorem validGo_fuel : ∀ (n m : Nat) (l : Bs), l.length ≤ n → l.length ≤ m → Lib.validGoD n l = Lib.validGoD m l := by
  intro n; induction n with
  | zero =>
    intro m l h _
    have : l = [] := List.eq_nil_of_length_eq_zero (by omega)
    subst this
    cases m <;> simp [Lib.validGoD]
  | succ n ih =>
    intro m l hn hm
    cases m with
    | zero =>
      have : l = [] := List.eq_nil_of_length_eq_zero (by omega)
      subst this; simp [Lib.validGoD]
    | succ m =>
      simp only [Lib.validGoD]
      split
      · rfl
      · split
        · rfl
        · next h1 h2 =>
          have hw := Lib.decodeL_width l
          have hl : 0 < l.length := by cases l with
            | nil => exact absurd rfl h1
            | cons _ _ => simp
          exact ih m _ (by rw [List.length_drop]; omega) (by rw [List.length_drop]; omega)
theorem textOk_nil : textOk [] = true := rfl
theorem textOk_step {l : Bs} (h : l ≠ []) : textOk l = if (runeAt l).2 = 0 then false else textOk (l.drop (runeAt l).2) := by
  have hw := Lib.decodeL_width l
  have hl : 0 < l.length := by cases l with
    | nil => exact absurd rfl h
    | cons _ _ => simp
  unfold textOk Lib.validD runeAt
  obtain ⟨n, hn⟩ : ∃ n, l.length = n + 1 := ⟨l.length - 1, by omega⟩
  rw [hn]
  simp only [Lib.validGoD, if_neg h]
  split
  · rfl
  · next h2 =>
    rw [if_neg (by omega)]
    exact validGo_fuel _ _ _ (by rw [List.length_drop]; omega) (Nat.le_refl _)
theorem runeAt_neg {l : Bs} : (runeAt l).1 < 0 ↔ (runeAt l).2 = 0 := by
  have hw := Lib.decodeL_width l
  unfold runeAt
  split
  · simp
  · split
    · simp
    · constructor
      · intro h; have : (0 : Int) ≤ ((Lib.decodeL l).1 : Int) := Int.natCast_nonneg _; omega
      · intro h; exact absurd h (by omega)
theorem runeAt_neg1 {l : Bs} (h : (runeAt l).2 = 0) : runeAt l = (-1, 0) := by
  unfold runeAt at *
  split at h
  · rw [if_pos ‹_›]
  · rw [if_neg ‹_›]
    split at h
    · rw [if_pos ‹_›]
    · have hw := Lib.decodeL_width l; exact absurd h (by omega)
theorem runeAt_le {l : Bs} : (runeAt l).2 ≤ l.length := by
  by_cases h : l = []
  · subst h; simp [runeAt]
  · unfold runeAt
    rw [if_neg h]
    split
    · simp
    · next h2 => rw [Lib.decodeL_N] at *; have : 0 < l.length := by cases l with
        | nil => exact absurd rfl h
        | cons _ _ => simp
                 simp only
                 unfold Lib.decodeN
                 repeat' split
                 all_goals (simp only; omega)
/-- The rune of some bytes, as the reference reckons it. -/
def contN : List UInt8 → Int → Option Int
  | [], n => some n
  | c :: cs, n => if 128 ≤ c.toNat ∧ c.toNat ≤ 191 then contN cs (n * 64 + c.toNat - 128) else none
def manyOf (b : UInt8) : Nat := if 194 ≤ b.toNat ∧ b.toNat < 224 then 2 else if 224 ≤ b.toNat ∧ b.toNat < 240 then 3 else if 240 ≤ b.toNat ∧ b.toNat < 245 then 4 else 0
def leadOf (b : UInt8) : Int := if 194 ≤ b.toNat ∧ b.toNat < 224 then b.toNat - 192 else if 224 ≤ b.toNat ∧ b.toNat < 240 then b.toNat - 224 else b.toNat - 240
def runeS (l : Bs) : Int × Nat := match l with
  | [] => (-1, 0)
  | b :: r => if b.toNat < 128 then (b.toNat, 1) else if manyOf b = 0 then (-1, 0) else if l.length < manyOf b then (-1, 0) else
    match contN (r.take (manyOf b - 1)) (leadOf b) with
    | none => (-1, 0)
    | some n => if (runeText n).length = manyOf b then (n, manyOf b) else (-1, 0)
theorem runeText_len {n : Int} : (runeText n).length = if scalar? n = false then 0 else if n < 128 then 1 else if n < 2048 then 2 else if n < 65536 then 3 else 4 := by
  unfold runeText
  repeat' split
  all_goals rfl
theorem scalar_iff {n : Int} : scalar? n = true ↔ 0 ≤ n ∧ n ≤ 1114111 ∧ ¬ (55296 ≤ n ∧ n ≤ 57343) := by
  unfold scalar?; simp; omega
theorem rt2 {n : Int} : (runeText n).length = 2 ↔ 128 ≤ n ∧ n < 2048 := by
  rw [runeText_len]
  have := scalar_iff (n := n)
  cases h : scalar? n
  · rw [h] at this; simp; simp at this; omega
  · rw [h] at this; simp at this ⊢
    repeat' split
    all_goals (simp; omega)
theorem rt3 {n : Int} : (runeText n).length = 3 ↔ (2048 ≤ n ∧ n < 65536) ∧ ¬ (55296 ≤ n ∧ n ≤ 57343) := by
  rw [runeText_len]
  have := scalar_iff (n := n)
  cases h : scalar? n
  · rw [h] at this; simp; simp at this; omega
  · rw [h] at this; simp at this ⊢
    repeat' split
    all_goals (simp; omega)
theorem rt4 {n : Int} : (runeText n).length = 4 ↔ 65536 ≤ n ∧ n ≤ 1114111 := by
  rw [runeText_len]
  have := scalar_iff (n := n)
  cases h : scalar? n
  · rw [h] at this; simp; simp at this; omega
  · rw [h] at this; simp at this ⊢
    repeat' split
    all_goals (simp; omega)
theorem many_cases (b : UInt8) : (manyOf b = 0 ∧ ¬ (194 ≤ b.toNat ∧ b.toNat < 245)) ∨ (manyOf b = 2 ∧ leadOf b = b.toNat - 192 ∧ 194 ≤ b.toNat ∧ b.toNat < 224) ∨
    (manyOf b = 3 ∧ leadOf b = b.toNat - 224 ∧ 224 ≤ b.toNat ∧ b.toNat < 240) ∨ (manyOf b = 4 ∧ leadOf b = b.toNat - 240 ∧ 240 ≤ b.toNat ∧ b.toNat < 245) := by
  unfold manyOf leadOf
  split
  · right; left; exact ⟨rfl, rfl, ‹_›⟩
  · split
    · right; right; left; exact ⟨rfl, rfl, ‹_›⟩
    · split
      · right; right; right; exact ⟨rfl, rfl, ‹_›⟩
      · left; exact ⟨rfl, by omega⟩
theorem bad_of {n b0 b1 b2 b3 : Nat} (h : ¬ b0 < 128) (h1 : ¬ (b0 / 32 = 6 ∧ 1 < n ∧ b1 / 64 = 2)) (h2 : ¬ (b0 / 16 = 14 ∧ (1 < n ∧ b1 / 64 = 2) ∧ 2 < n ∧ b2 / 64 = 2)) (h3 : ¬ (b0 / 8 = 30 ∧ (1 < n ∧ b1 / 64 = 2) ∧ (2 < n ∧ b2 / 64 = 2) ∧ 3 < n ∧ b3 / 64 = 2)) : Lib.decodeN n b0 b1 b2 b3 = (65533, 1) := by
  unfold Lib.decodeN; rw [if_neg h, if_neg h1, if_neg h2, if_neg h3]
theorem two_of {n b0 b1 b2 b3 : Nat} (h : 194 ≤ b0 ∧ b0 < 224) (h1 : 1 < n ∧ b1 / 64 = 2) : Lib.decodeN n b0 b1 b2 b3 = (b0 % 32 * 64 + b1 % 64, 2) := by
  unfold Lib.decodeN; rw [if_neg (by omega), if_pos ⟨by omega, h1⟩, if_pos (by omega)]
theorem three_of {n b0 b1 b2 b3 : Nat} (h : 224 ≤ b0 ∧ b0 < 240) (h1 : 2 < n ∧ b1 / 64 = 2 ∧ b2 / 64 = 2) (c : Nat) (hc : b0 % 16 * 4096 + b1 % 64 * 64 + b2 % 64 = c) :
    Lib.decodeN n b0 b1 b2 b3 = if 2048 ≤ c ∧ ¬ (55296 ≤ c ∧ c ≤ 57343) then (c, 3) else (65533, 1) := by
  unfold Lib.decodeN; rw [if_neg (by omega), if_neg (by omega), if_pos (by omega), hc]
  by_cases h2 : 2048 ≤ c ∧ ¬ (55296 ≤ c ∧ c ≤ 57343)
  · rw [if_pos h2, if_pos (by omega)]
  · rw [if_neg h2, if_neg (by omega)]
theorem four_of {n b0 b1 b2 b3 : Nat} (h : 240 ≤ b0 ∧ b0 < 245) (h1 : 3 < n ∧ b1 / 64 = 2 ∧ b2 / 64 = 2 ∧ b3 / 64 = 2) (c : Nat) (hc : b0 % 8 * 262144 + b1 % 64 * 4096 + b2 % 64 * 64 + b3 % 64 = c) :
    Lib.decodeN n b0 b1 b2 b3 = if 65536 ≤ c ∧ c ≤ 1114111 then (c, 4) else (65533, 1) := by
  unfold Lib.decodeN; rw [if_neg (by omega), if_neg (by omega), if_neg (by omega), if_pos (by omega), hc]
  by_cases h2 : 65536 ≤ c ∧ c ≤ 1114111
  · rw [if_pos h2, if_pos (by omega)]
  · rw [if_neg h2, if_neg (by omega)]
theorem runeAt_bad {l : Bs} (h : l ≠ []) (e : Lib.decodeL l = (65533, 1)) : runeAt l = (-1, 0) := by unfold runeAt; rw [if_neg h, e, if_pos ⟨rfl, rfl⟩]
theorem runeAt_ok {l : Bs} {c k : Nat} (h : l ≠ []) (e : Lib.decodeL l = (c, k)) (hk : ¬ (c = 65533 ∧ k = 1)) : runeAt l = ((c : Int), k) := by unfold runeAt; rw [if_neg h, e, if_neg hk]
theorem cont_iff {c : UInt8} : (128 ≤ c.toNat ∧ c.toNat ≤ 191) ↔ c.toNat / 64 = 2 := by omega
theorem runeS_eq (l : Bs) : runeS l = runeAt l := by
  match l with
  | [] => rfl
  | b :: r =>
    have hb := b.toNat_lt
    have hne : (b :: r : Bs) ≠ [] := by simp
    have hN := Lib.decodeL_N (b :: r)
    simp only [List.getD_cons_zero, List.getD_cons_succ, List.length_cons] at hN
    unfold runeS
    by_cases h : b.toNat < 128
    · simp only [if_pos h]
      rw [runeAt_ok hne (c := b.toNat) (k := 1) (by rw [hN]; unfold Lib.decodeN; rw [if_pos h]) (by omega)]
    simp only [if_neg h]
    rcases many_cases b with ⟨hm, h2⟩ | ⟨hm, hl, h2⟩ | ⟨hm, hl, h2⟩ | ⟨hm, hl, h2⟩
    · rw [hm, runeAt_bad hne]
      · rfl
      · rw [hN]
        by_cases h3 : b.toNat / 32 = 6
        · unfold Lib.decodeN
          rw [if_neg h]
          split
          · rw [if_neg (by omega)]
          · rw [if_neg (by omega), if_neg (by omega)]
        · by_cases h4 : b.toNat / 8 = 30
          · unfold Lib.decodeN
            rw [if_neg h, if_neg (by omega), if_neg (by omega)]
            split
            · rw [if_neg (by omega)]
            · rfl
          · exact bad_of h (by omega) (by omega) (by omega)
    · rw [hm, hl, if_neg (by omega)]
      match r with
      | [] =>
        rw [if_pos (by simp), runeAt_bad hne]
        rw [hN]; exact bad_of h (by simp) (by omega) (by omega)
      | c :: r =>
        have hc := c.toNat_lt
        rw [if_neg (by simp)]
        simp only [Nat.add_one_sub_one, List.take_succ_cons, List.take_zero, contN, cont_iff]
        simp only [List.getD_cons_zero, List.length_cons] at hN
        by_cases h3 : c.toNat / 64 = 2
        · rw [if_pos h3]
          simp only
          rw [if_pos (rt2.2 (by omega)), runeAt_ok hne (c := b.toNat % 32 * 64 + c.toNat % 64) (k := 2) (by rw [hN]; exact two_of h2 ⟨by omega, h3⟩) (by omega)]
          congr 1; omega
        · rw [if_neg h3, runeAt_bad hne]
          rw [hN]; exact bad_of h (by omega) (by omega) (by omega)
    · rw [hm, hl, if_neg (by omega)]
      match r with
      | [] =>
        rw [if_pos (by simp), runeAt_bad hne]
        rw [hN]; exact bad_of h (by omega) (by simp) (by omega)
      | [c] =>
        rw [if_pos (by simp), runeAt_bad hne]
        rw [hN]; exact bad_of h (by omega) (by simp) (by omega)
      | c :: d :: r =>
        have hc := c.toNat_lt
        have hd := d.toNat_lt
        rw [if_neg (by simp)]
        simp only [Nat.reduceSub, List.take_succ_cons, List.take_zero, contN, cont_iff]
        simp only [List.getD_cons_zero, List.getD_cons_succ, List.length_cons] at hN
        by_cases h3 : c.toNat / 64 = 2
        · rw [if_pos h3]
          by_cases h4 : d.toNat / 64 = 2
          · rw [if_pos h4]
            simp only
            rw [three_of h2 ⟨by omega, h3, h4⟩ _ rfl] at hN
            have e2 : (((b.toNat : Int) - 224) * 64 + c.toNat - 128) * 64 + d.toNat - 128 = ((b.toNat % 16 * 4096 + c.toNat % 64 * 64 + d.toNat % 64 : Nat) : Int) := by omega
            rw [e2]
            have hn : b.toNat % 16 * 4096 + c.toNat % 64 * 64 + d.toNat % 64 < 65536 := by omega
            generalize b.toNat % 16 * 4096 + c.toNat % 64 * 64 + d.toNat % 64 = n at *
            by_cases h6 : 2048 ≤ n ∧ ¬ (55296 ≤ n ∧ n ≤ 57343)
            · rw [if_pos h6] at hN
              rw [if_pos (rt3.2 (by omega)), runeAt_ok hne hN (by omega)]
            · rw [if_neg h6] at hN
              rw [if_neg (fun e => by have := rt3.1 e; omega), runeAt_bad hne hN]
          · rw [if_neg h4, runeAt_bad hne]
            rw [hN]; exact bad_of h (by omega) (by omega) (by omega)
        · rw [if_neg h3, runeAt_bad hne]
          rw [hN]; exact bad_of h (by omega) (by omega) (by omega)
    · rw [hm, hl, if_neg (by omega)]
      match r with
      | [] =>
        rw [if_pos (by simp), runeAt_bad hne]
        rw [hN]; exact bad_of h (by omega) (by omega) (by simp)
      | [c] =>
        rw [if_pos (by simp), runeAt_bad hne]
        rw [hN]; exact bad_of h (by omega) (by omega) (by simp)
      | [c, d] =>
        rw [if_pos (by simp), runeAt_bad hne]
        rw [hN]; exact bad_of h (by omega) (by omega) (by simp)
      | c :: d :: e :: r =>
        have hc := c.toNat_lt
        have hd := d.toNat_lt
        have he := e.toNat_lt
        rw [if_neg (by simp)]
        simp only [Nat.reduceSub, List.take_succ_cons, List.take_zero, contN, cont_iff]
        simp only [List.getD_cons_zero, List.getD_cons_succ, List.length_cons] at hN
        by_cases h3 : c.toNat / 64 = 2
        · rw [if_pos h3]
          by_cases h4 : d.toNat / 64 = 2
          · rw [if_pos h4]
            by_cases h5 : e.toNat / 64 = 2
            · rw [if_pos h5]
              simp only
              rw [four_of h2 ⟨by omega, h3, h4, h5⟩ _ rfl] at hN
              have e2 : ((((b.toNat : Int) - 240) * 64 + c.toNat - 128) * 64 + d.toNat - 128) * 64 + e.toNat - 128 = ((b.toNat % 8 * 262144 + c.toNat % 64 * 4096 + d.toNat % 64 * 64 + e.toNat % 64 : Nat) : Int) := by omega
              rw [e2]
              generalize b.toNat % 8 * 262144 + c.toNat % 64 * 4096 + d.toNat % 64 * 64 + e.toNat % 64 = n at *
              by_cases h6 : 65536 ≤ n ∧ n ≤ 1114111
              · rw [if_pos h6] at hN
                rw [if_pos (rt4.2 (by omega)), runeAt_ok hne hN (by omega)]
              · rw [if_neg h6] at hN
                rw [if_neg (fun e => by have := rt4.1 e; omega), runeAt_bad hne hN]
            · rw [if_neg h5, runeAt_bad hne]
              rw [hN]; exact bad_of h (by omega) (by omega) (by omega)
          · rw [if_neg h4, runeAt_bad hne]
            rw [hN]; exact bad_of h (by omega) (by omega) (by omega)
        · rw [if_neg h3, runeAt_bad hne]
          rw [hN]; exact bad_of h (by omega) (by omega) (by omega)
def isFig (b : UInt8) : Bool := decide ((48 : Int) ≤ b.toNat) && decide ((b.toNat : Int) ≤ 57)
def isLet (b : UInt8) : Bool := decide ((97 : Int) ≤ b.toNat) && decide ((b.toNat : Int) ≤ 122) || decide ((65 : Int) ≤ b.toNat) && decide ((b.toNat : Int) ≤ 90)
def isUn (b : UInt8) : Bool := decide ((b.toNat : Int) = 95)
theorem isFig_iff {b : UInt8} : isFig b = true ↔ 48 ≤ b.toNat ∧ b.toNat ≤ 57 := by unfold isFig; simp; omega
theorem drop_cons {s : Bs} {i : Nat} {b : UInt8} (h : s[i]? = some b) : s.drop i = b :: s.drop (i + 1) := by
  obtain ⟨hlt, rfl⟩ := List.getElem?_eq_some_iff.1 h
  exact List.drop_eq_getElem_cons hlt
theorem drop_nil {s : Bs} {i : Nat} (h : s.length ≤ i) : s.drop i = [] := List.drop_of_length_le h
theorem runeAt_nil : runeAt [] = (-1, 0) := rfl
def hexD (n : Nat) : UInt8 := if n < 10 then UInt8.ofNat (48 + n) else UInt8.ofNat (87 + n)
def hexS : Bs := [48, 49, 50, 51, 52, 53, 54, 55, 56, 57, 97, 98, 99, 100, 101, 102]
def escIn : Bs := [34, 92, 8, 9, 10, 12, 13]
def escOut : Bs := [34, 92, 98, 116, 110, 102, 114]
def esc1 (b : UInt8) : Bs := if b.toNat = 34 then [92, 34] else if b.toNat = 92 then [92, 92] else if b.toNat = 8 then [92, 98] else if b.toNat = 9 then [92, 116] else if b.toNat = 10 then [92, 110] else if b.toNat = 12 then [92, 102] else if b.toNat = 13 then [92, 114]
  else if b.toNat < 32 ∨ b.toNat = 127 then [92, 117, 48, 48, hexD (b.toNat / 16), hexD (b.toNat % 16)] else [b]
def escB (s : Bs) : Bs := s.flatMap esc1
def escaped (s : Bs) : Bs := if textOk s = false ∨ 200 < s.length then [] else 34 :: (escB s ++ [34])
theorem esc1_len (b : UInt8) : (esc1 b).length ≤ 6 := by
  unfold esc1
  repeat' split
  all_goals (simp only [List.length_cons, List.length_nil]; omega)
theorem escB_len (s : Bs) : (escB s).length ≤ 6 * s.length := by
  unfold escB
  induction s with
  | nil => simp
  | cons b s ih => have := esc1_len b; simp only [List.flatMap_cons, List.length_append, List.length_cons]; omega
theorem escB_take {s : Bs} {i : Nat} {b : UInt8} (h : s[i]? = some b) : escB (s.take (i + 1)) = escB (s.take i) ++ esc1 b := by
  unfold escB; rw [List.take_add_one, h]; simp
theorem escaped_len (s : Bs) : (escaped s).length ≤ 1202 := by
  unfold escaped; split
  · simp
  · next h => have := escB_len s; simp at h ⊢; omega
theorem esc_at (b : UInt8) : (0 ≤ Lib.indexByte escIn b → Lib.indexByte escIn b < 7 ∧ esc1 b = [92, escOut.getD (Lib.indexByte escIn b).toNat 0]) ∧
    (Lib.indexByte escIn b < 0 → esc1 b = if b.toNat < 32 ∨ b.toNat = 127 then [92, 117, 48, 48, hexS.getD (b.toNat / 16) 0, hexS.getD (b.toNat % 16) 0] else [b]) :=
  u8_all (p := fun b => (0 ≤ Lib.indexByte escIn b → Lib.indexByte escIn b < 7 ∧ esc1 b = [92, escOut.getD (Lib.indexByte escIn b).toNat 0]) ∧
    (Lib.indexByte escIn b < 0 → esc1 b = if b.toNat < 32 ∨ b.toNat = 127 then [92, 117, 48, 48, hexS.getD (b.toNat / 16) 0, hexS.getD (b.toNat % 16) 0] else [b])) (by decide) b
theorem and15 (b : UInt8) : bitsOp .and .u8 b.toNat 15 = ((b.toNat % 16 : Nat) : Int) := u8_all (p := fun b => bitsOp .and .u8 b.toNat 15 = ((b.toNat % 16 : Nat) : Int)) (by decide) b
theorem shr4 (b : UInt8) : (b.toNat : Int).fdiv (2 ^ min 4 IntKind.u8.bits) = ((b.toNat / 16 : Nat) : Int) := u8_all (p := fun b => (b.toNat : Int).fdiv (2 ^ min 4 IntKind.u8.bits) = ((b.toNat / 16 : Nat) : Int)) (by decide) b
theorem hexS_at (b : UInt8) : hexS.getD (b.toNat / 16) 0 = hexD (b.toNat / 16) ∧ hexS.getD (b.toNat % 16) 0 = hexD (b.toNat % 16) := u8_all (p := fun b => hexS.getD (b.toNat / 16) 0 = hexD (b.toNat / 16) ∧ hexS.getD (b.toNat % 16) 0 = hexD (b.toNat % 16)) (by decide) b
theorem u8_eq {b c : UInt8} : ((b.toNat : Int) = c.toNat) ↔ b = c := by
  constructor
  · intro h; exact UInt8.toNat_inj.1 (by omega)
  · rintro rfl; rfl
theorem esc1_cases (b : UInt8) : (b.toNat = 34 ∨ b.toNat = 92 → esc1 b = [92, b]) ∧ (b.toNat = 8 → esc1 b = [92, 98]) ∧ (b.toNat = 9 → esc1 b = [92, 116]) ∧ (b.toNat = 10 → esc1 b = [92, 110]) ∧ (b.toNat = 12 → esc1 b = [92, 102]) ∧ (b.toNat = 13 → esc1 b = [92, 114]) ∧
    (¬ b.toNat = 34 → ¬ b.toNat = 92 → ¬ b.toNat = 8 → ¬ b.toNat = 9 → ¬ b.toNat = 10 → ¬ b.toNat = 12 → ¬ b.toNat = 13 → (b.toNat < 32 ∨ b.toNat = 127 → esc1 b = [92, 117, hexD (b.toNat / 4096 % 16), hexD (b.toNat / 256 % 16), hexD (b.toNat / 16 % 16), hexD (b.toNat % 16)]) ∧ (¬ (b.toNat < 32 ∨ b.toNat = 127) → esc1 b = [b])) := by
  have hb := b.toNat_lt
  unfold esc1
  refine ⟨fun h => ?_, fun h => ?_, fun h => ?_, fun h => ?_, fun h => ?_, fun h => ?_, fun h1 h2 h3 h4 h5 h6 h7 => ⟨fun h => ?_, fun h => ?_⟩⟩
  · rcases h with h | h
    · rw [if_pos h]; have : b = 34 := UInt8.toNat_inj.1 h
      rw [this]
    · rw [if_neg (by omega), if_pos h]; have : b = 92 := UInt8.toNat_inj.1 h
      rw [this]
  · rw [if_neg (by omega), if_neg (by omega), if_pos h]
  · rw [if_neg (by omega), if_neg (by omega), if_neg (by omega), if_pos h]
  · rw [if_neg (by omega), if_neg (by omega), if_neg (by omega), if_neg (by omega), if_pos h]
  · rw [if_neg (by omega), if_neg (by omega), if_neg (by omega), if_neg (by omega), if_neg (by omega), if_pos h]
  · rw [if_neg (by omega), if_neg (by omega), if_neg (by omega), if_neg (by omega), if_neg (by omega), if_neg (by omega), if_pos h]
  · rw [if_neg h1, if_neg h2, if_neg h3, if_neg h4, if_neg h5, if_neg h6, if_neg h7, if_pos h]
    have e1 : b.toNat / 4096 % 16 = 0 := by omega
    have e2 : b.toNat / 256 % 16 = 0 := by omega
    have e3 : b.toNat / 16 % 16 = b.toNat / 16 := by omega
    rw [e1, e2, e3]; rfl
  · rw [if_neg h1, if_neg h2, if_neg h3, if_neg h4, if_neg h5, if_neg h6, if_neg h7, if_neg h]
theorem tmod_nat (a k : Nat) : (a : Int).tmod k = ((a % k : Nat) : Int) := rfl
theorem hexS_get {k : Nat} (h : k < 16) : hexS[k]?.getD 0 = hexD k := by
  have : ∀ n : Fin 16, hexS[n.val]?.getD 0 = hexD n.val := by decide
  exact this ⟨k, h⟩
end Go.Proofs.YtkefgpmnimpcdaaGreatDoor.Abs
