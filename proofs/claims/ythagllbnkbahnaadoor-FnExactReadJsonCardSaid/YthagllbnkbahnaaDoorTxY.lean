/- The program's reader of Json: what it reads, and the contract. No condition. -/
import Derived.Test.YthagllbnkbahnaaDoorTxX
set_option linter.unusedVariables false
set_option linter.unusedSimpArgs false
namespace Go.Proofs.YthagllbnkbahnaaDoor.Abs
open Go
set_option maxHeartbeats 2000000
set_option maxRecDepth 100000
def RdE (rd : Option (DJson × Nat)) (r : DJson × Nat × Bool) : Prop := match rd with
  | some x => r = (x.1, x.2, false)
  | none => r.2.2 = true
/-- A value, read by the program. -/
def prJ : Nat → Bs → Nat → DJson × Nat × Bool := fun d s a =>
  if nullW.isPrefixOf (s.drop (pass s a)) then (⟨1, [], [], []⟩, pass s a + 4, false) else
  if trueW.isPrefixOf (s.drop (pass s a)) then (⟨2, [], [], []⟩, pass s a + 4, false) else
  if falseW.isPrefixOf (s.drop (pass s a)) then (⟨3, [], [], []⟩, pass s a + 5, false) else
  match s[pass s a]? with
  | none => (zJ, pass s a, true)
  | some b => if b = 34 then (⟨5, txT s (pass s a), [], []⟩, txA s (pass s a), txF s (pass s a)) else
    if b = 91 ∨ b = 123 then (match d with
      | 0 => (zJ, pass s a, true)
      | d + 1 => prP (prJ d s) s (decide (b = 123)) (pass s a + 1)) else
    (⟨4, numT s (pass s a), [], []⟩, numEnd s (pass s a), !(intOk (numT s (pass s a)) || floatOk (numT s (pass s a))))
theorem word_at {s : Bs} {p : Nat} {c : UInt8} {w : Bs} (h : (c :: w).isPrefixOf (s.drop p) = true) : s[p]? = some c := by
  rcases Nat.lt_or_ge p s.length with hl | hl
  · obtain ⟨b, hb⟩ : ∃ b, s[p]? = some b := ⟨_, List.getElem?_eq_getElem hl⟩
    rw [drop_cons hb] at h
    simp [List.isPrefixOf] at h
    rw [hb, h.1]
  · rw [drop_nil hl] at h; simp [List.isPrefixOf] at h
theorem prL_bnd {pj : Nat → DJson × Nat × Bool} {s : Bs} {obj : Bool} (hpj : ∀ a, a ≤ s.length → a ≤ (pj a).2.1 ∧ (pj a).2.1 ≤ s.length) : ∀ (n : Nat) (names : List Bs) (items : List DJson) (a : Nat), a ≤ s.length →
    a ≤ (prL pj s obj n names items a).2.1 ∧ (prL pj s obj n names items a).2.1 ≤ s.length := by
  intro n
  induction n with
  | zero => intro names items a ha; exact ⟨Nat.le_refl _, ha⟩
  | succ n ih =>
    intro names items a ha
    rw [prL]
    have hN : a ≤ (prN s a obj names).2.1 ∧ (prN s a obj names).2.1 ≤ s.length := by
      unfold prN
      cases obj with
      | false => exact ⟨Nat.le_refl _, ha⟩
      | true =>
        have h1 := pass_le ha
        have h2 := pass_ge s a
        have h3 := txA_ge s (pass s a)
        have h4 := txA_le h1
        have h5 := pass_le h4
        have h6 := pass_ge s (txA s (pass s a))
        simp only [if_true]
        cases hq : takeOk s (txA s (pass s a)) (txF s (pass s a)) [58] with
        | false => simp; omega
        | true => have := (takeOk_lt hq).2.2; simp; omega
    generalize prN s a obj names = N at *
    have hX := prX_bnd hpj (f := N.2.2) hN.2
    generalize prX pj s N.2.1 N.2.2 = x at *
    have h5 := pass_le hX.2
    have h6 := pass_ge s x.2.1
    split
    · next hq => have := (takeOk_lt hq).2.2; simp; omega
    · split
      · next hq =>
        have h7 := (takeOk_lt hq).2.2
        rw [pass_pass] at h7
        have := ih N.1 (items ++ [x.1]) (pass s x.2.1 + 1) h7
        omega
      · simp; omega
theorem prP_bnd {pj : Nat → DJson × Nat × Bool} {s : Bs} {obj : Bool} (hpj : ∀ a, a ≤ s.length → a ≤ (pj a).2.1 ∧ (pj a).2.1 ≤ s.length) {a : Nat} (ha : a ≤ s.length) :
    a ≤ (prP pj s obj a).2.1 ∧ (prP pj s obj a).2.1 ≤ s.length := by
  have h1 := pass_le ha
  have h2 := pass_ge s a
  unfold prP
  split
  · next hq => have := (takeOk_lt hq).2.2; simp; omega
  · have := prL_bnd (obj := obj) hpj (s.length - pass s a + 1) [] [] (pass s a) h1
    omega
theorem prJ_cases (P : DJson × Nat × Bool → Prop) (d : Nat) (s : Bs) (a p : Nat) (hp : pass s a = p)
    (h1 : nullW.isPrefixOf (s.drop p) = true → P (⟨1, [], [], []⟩, p + 4, false))
    (h2 : nullW.isPrefixOf (s.drop p) = false → trueW.isPrefixOf (s.drop p) = true → P (⟨2, [], [], []⟩, p + 4, false))
    (h3 : nullW.isPrefixOf (s.drop p) = false → trueW.isPrefixOf (s.drop p) = false → falseW.isPrefixOf (s.drop p) = true → P (⟨3, [], [], []⟩, p + 5, false))
    (h4 : s[p]? = none → P (zJ, p, true))
    (h5 : s[p]? = some 34 → P (⟨5, txT s p, [], []⟩, txA s p, txF s p))
    (h6 : nullW.isPrefixOf (s.drop p) = false → trueW.isPrefixOf (s.drop p) = false → falseW.isPrefixOf (s.drop p) = false → ∀ b, s[p]? = some b → b ≠ 34 → ¬ (b = 91 ∨ b = 123) → P (⟨4, numT s p, [], []⟩, numEnd s p, !(intOk (numT s p) || floatOk (numT s p))))
    (h7 : ∀ b, s[p]? = some b → b ≠ 34 → b = 91 ∨ b = 123 → d = 0 → P (zJ, p, true))
    (h8 : ∀ b d', s[p]? = some b → b ≠ 34 → b = 91 ∨ b = 123 → d = d' + 1 → P (prP (prJ d' s) s (decide (b = 123)) (p + 1))) : P (prJ d s a) := by
  unfold prJ
  rw [hp]
  cases q1 : nullW.isPrefixOf (s.drop p) with
  | true => rw [if_pos rfl]; exact h1 q1
  | false =>
  rw [if_neg (by simp)]
  cases q2 : trueW.isPrefixOf (s.drop p) with
  | true => rw [if_pos rfl]; exact h2 q1 q2
  | false =>
  rw [if_neg (by simp)]
  cases q3 : falseW.isPrefixOf (s.drop p) with
  | true => rw [if_pos rfl]; exact h3 q1 q2 q3
  | false =>
  rw [if_neg (by simp)]
  cases hb : s[p]? with
  | none => exact h4 hb
  | some b =>
    simp only
    by_cases c1 : b = 34
    · rw [if_pos c1]; exact h5 (c1 ▸ hb)
    rw [if_neg c1]
    by_cases c2 : b = 91 ∨ b = 123
    · rw [if_pos c2]
      cases d with
      | zero => exact h7 b hb c1 c2 rfl
      | succ d => exact h8 b d hb c1 c2 rfl
    · rw [if_neg c2]; exact h6 q1 q2 q3 b hb c1 c2
theorem prJ_bnd {s : Bs} : ∀ (d a : Nat), a ≤ s.length → a ≤ (prJ d s a).2.1 ∧ (prJ d s a).2.1 ≤ s.length := by
  have key : ∀ d : Nat, (∀ d' : Nat, d = d' + 1 → ∀ a, a ≤ s.length → a ≤ (prJ d' s a).2.1 ∧ (prJ d' s a).2.1 ≤ s.length) → ∀ a, a ≤ s.length → a ≤ (prJ d s a).2.1 ∧ (prJ d s a).2.1 ≤ s.length := by
    intro d ih a ha
    have h1 := pass_le ha
    have h2 := pass_ge s a
    have h3 := txA_ge s (pass s a)
    have h4 := txA_le h1
    have h5 := runP_le (p := isNb) (l := s.drop (pass s a))
    rw [List.length_drop] at h5
    have h6 : ∀ w : Bs, w.isPrefixOf (s.drop (pass s a)) = true → w.length ≤ s.length - pass s a := fun w h => by
      have := (prefix_take h).2; rwa [List.length_drop] at this
    refine prJ_cases (fun r => a ≤ r.2.1 ∧ r.2.1 ≤ s.length) d s a (pass s a) rfl (fun h => ?_) (fun _ h => ?_) (fun _ _ h => ?_) (fun _ => ⟨h2, h1⟩) (fun _ => ⟨by simp; omega, h4⟩) (fun _ _ _ b hb _ _ => ⟨by simp [numEnd]; omega, by simp [numEnd]; omega⟩) (fun _ _ _ _ _ => ⟨h2, h1⟩) (fun b d' hb _ _ hd => ?_)
    · have := h6 _ h; have e : nullW.length = 4 := rfl; simp; omega
    · have := h6 _ h; have e : trueW.length = 4 := rfl; simp; omega
    · have := h6 _ h; have e : falseW.length = 5 := rfl; simp; omega
    · have hlt := (List.getElem?_eq_some_iff.1 hb).1
      have := prP_bnd (obj := decide (b = 123)) (ih d' hd) (a := pass s a + 1) hlt
      omega
  intro d
  induction d with
  | zero => exact key 0 (fun d' h => by omega)
  | succ d ih => exact key (d + 1) (fun d' h => by obtain rfl : d = d' := by omega
                                                   exact ih)
theorem c_json (s : Bs) (hs : s.length ≤ 1000000) : ∀ (d : Nat), d ≤ 20 → ∀ a, a ≤ s.length → ∀ (A : List (List (List AC))) (X : List (List AC)) (Y : List (List AC)) (C : List (List (List AC))),
    Ct Tryd.prog 11 [.ptr A.length X.length 0, .int .i64 d] (KR A X s a false Y C) (.agg (encL .of (tJson (prJ d s a).1))) (KR A X s ((prJ d s a).2.1 : Nat) (prJ d s a).2.2 Y C) := by
  have key : ∀ d : Nat, d ≤ 20 → (∀ d' : Nat, d = d' + 1 → ∀ a, a ≤ s.length → ∀ (A : List (List (List AC))) (X : List (List AC)) (Y : List (List AC)) (C : List (List (List AC))),
      Ct Tryd.prog 11 [.ptr A.length X.length 0, .int .i64 d'] (KR A X s a false Y C) (.agg (encL .of (tJson (prJ d' s a).1))) (KR A X s ((prJ d' s a).2.1 : Nat) (prJ d' s a).2.2 Y C)) →
      ∀ a, a ≤ s.length → ∀ (A : List (List (List AC))) (X : List (List AC)) (Y : List (List AC)) (C : List (List (List AC))),
      Ct Tryd.prog 11 [.ptr A.length X.length 0, .int .i64 d] (KR A X s a false Y C) (.agg (encL .of (tJson (prJ d s a).1))) (KR A X s ((prJ d s a).2.1 : Nat) (prJ d s a).2.2 Y C) := by
    intro d hd ih a ha A X Y C
    generalize hp : pass s a = p
    have nw : ∀ {c : UInt8} {w : Bs} {b : UInt8}, s[p]? = some b → b ≠ c → (c :: w).isPrefixOf (s.drop p) = false := by
      intro c w b hb hne
      cases hq : (c :: w).isPrefixOf (s.drop p) with
      | false => rfl
      | true => rw [word_at hq] at hb; exact absurd (Option.some.inj hb).symm hne
    have nn : s.length ≤ p → ∀ {c : UInt8} {w : Bs}, (c :: w).isPrefixOf (s.drop p) = false := by
      intro h c w; rw [drop_nil h]; rfl
    refine c_jsonW A X s a d Y C ha hs hd _ _ _ p hp (fun h => ?_) (fun g1 h => ?_) (fun g1 g2 h => ?_) (fun h => ?_) (fun h => ?_) (fun g1 g2 g3 b hb n1 n2 n3 => ?_) (fun b hb hbr hd0 => ?_) (fun b hb hbr hd0 => ?_)
    · unfold prJ; rw [hp, if_pos h]; exact ⟨rfl, rfl, rfl⟩
    · unfold prJ; rw [hp, g1, if_neg (by simp), if_pos h]; exact ⟨rfl, rfl, rfl⟩
    · unfold prJ; rw [hp, g1, g2, if_neg (by simp), if_neg (by simp), if_pos h]; exact ⟨rfl, rfl, rfl⟩
    · unfold prJ
      rw [hp, show nullW.isPrefixOf (s.drop p) = false from nn h, show trueW.isPrefixOf (s.drop p) = false from nn h, show falseW.isPrefixOf (s.drop p) = false from nn h, if_neg (by simp), if_neg (by simp), if_neg (by simp), List.getElem?_eq_none h]
      exact ⟨rfl, rfl, rfl⟩
    · unfold prJ
      rw [hp, show nullW.isPrefixOf (s.drop p) = false from nw h (by decide), show trueW.isPrefixOf (s.drop p) = false from nw h (by decide), show falseW.isPrefixOf (s.drop p) = false from nw h (by decide), if_neg (by simp), if_neg (by simp), if_neg (by simp), h]
      exact ⟨rfl, rfl, rfl⟩
    · unfold prJ
      rw [hp, g1, g2, g3, if_neg (by simp), if_neg (by simp), if_neg (by simp), hb]
      simp only
      rw [if_neg n1, if_neg (by simp [n2, n3])]
      exact ⟨rfl, rfl, rfl⟩
    · unfold prJ
      have w : ∀ {c : UInt8} {w : Bs}, c = 110 ∨ c = 116 ∨ c = 102 → (c :: w).isPrefixOf (s.drop p) = false := by
        intro c w hc; refine nw hb ?_
        rcases hbr with rfl | rfl <;> rcases hc with rfl | rfl | rfl <;> decide
      have n1 : b ≠ 34 := by rcases hbr with rfl | rfl <;> decide
      rw [hp, show nullW.isPrefixOf (s.drop p) = false from w (by simp), show trueW.isPrefixOf (s.drop p) = false from w (by simp), show falseW.isPrefixOf (s.drop p) = false from w (by simp), if_neg (by simp), if_neg (by simp), if_neg (by simp), hb]
      simp only
      rw [if_neg n1, if_pos hbr, hd0]
      exact ⟨rfl, rfl, rfl⟩
    · obtain ⟨d', rfl⟩ : ∃ d', d = d' + 1 := ⟨d - 1, by omega⟩
      intro A
      have w : ∀ {c : UInt8} {w : Bs}, c = 110 ∨ c = 116 ∨ c = 102 → (c :: w).isPrefixOf (s.drop p) = false := by
        intro c w hc; refine nw hb ?_
        rcases hbr with rfl | rfl <;> rcases hc with rfl | rfl | rfl <;> decide
      have n1 : b ≠ 34 := by rcases hbr with rfl | rfl <;> decide
      have hlt := (List.getElem?_eq_some_iff.1 hb).1
      have e : prJ (d' + 1) s a = prP (prJ d' s) s (decide (b = 123)) (p + 1) := by
        conv => lhs; unfold prJ
        rw [hp, show nullW.isPrefixOf (s.drop p) = false from w (by simp), show trueW.isPrefixOf (s.drop p) = false from w (by simp), show falseW.isPrefixOf (s.drop p) = false from w (by simp), if_neg (by simp), if_neg (by simp), if_neg (by simp), hb]
        simp only
        rw [if_neg n1, if_pos hbr]
      rw [e]
      have := c_parts s d' hs (by omega) (prJ d' s) (fun a ha => prJ_bnd d' a ha) (ih d' rfl) (p + 1) (decide (b = 123)) hlt A X Y C
      rw [show ((d' + 1 : Nat) : Int) - 1 = d' by omega]
      exact_mod_cast this
  intro d
  induction d with
  | zero => intro hd; exact key 0 hd (fun d' h => by omega)
  | succ d ih => intro hd; exact key (d + 1) hd (fun d' h => by obtain rfl : d = d' := by omega
                                                                exact ih (by omega))
/-! The program reads what the plain reader reads. -/
theorem rdJ_pass (leaf : Bs → Nat → Option (DJson × Nat)) (m : Nat) (s : Bs) (a d : Nat) : rdJ leaf m s (pass s a) d = rdJ leaf m s a d := by
  cases m with
  | zero => simp only [rdJ]
  | succ m => rw [rdJ, rdJ, pass_pass]
theorem rdN_pass (s : Bs) (a : Nat) (names : List Bs) : rdN s (pass s a) true names = rdN s a true names := by
  unfold rdN; rw [pass_pass, if_pos rfl, if_pos rfl]
theorem rdL_pass (leaf : Bs → Nat → Option (DJson × Nat)) (m : Nat) (s : Bs) (a d : Nat) (obj : Bool) (names : List Bs) (items : List DJson) : rdL leaf m s (pass s a) obj d names items = rdL leaf m s a obj d names items := by
  cases m with
  | zero => simp only [rdL]
  | succ m =>
    rw [rdL_eq, rdL_eq]
    cases obj with
    | true => rw [rdN_pass]
    | false => simp only [rdN, Bool.false_eq_true, if_false, rdJ_pass]
theorem prN_rd (s : Bs) (a : Nat) (obj : Bool) (names : List Bs) : (∀ nm a', rdN s a obj names = some (nm, a') → prN s a obj names = (nm, a', false)) ∧ (rdN s a obj names = none → (prN s a obj names).2.2 = true) := by
  cases obj with
  | false => simp [rdN, prN]
  | true =>
    simp only [rdN, prN, if_true, rdStr_tx, takeOk1]
    cases hf : txF s (pass s a) with
    | true => simp
    | false =>
      simp only [Bool.false_eq_true, if_false, Bool.not_false, Bool.true_and]
      by_cases hc : s[pass s (txA s (pass s a))]? = some 58
      · simp [hc]
      · simp [hc]
theorem prL_rd {pj : Nat → DJson × Nat × Bool} {s : Bs} {obj : Bool} {d : Nat} (hpj : ∀ a, a ≤ s.length → a ≤ (pj a).2.1 ∧ (pj a).2.1 ≤ s.length)
    (hrd : ∀ a, a ≤ s.length → ∀ m, 3 * (s.length - a) + 1 ≤ m → RdE (rdJ leafI m s a d) (pj a)) : ∀ (n : Nat) (names : List Bs) (items : List DJson) (a : Nat), a ≤ s.length → s.length - a < n →
    ∀ m, 3 * (s.length - a) + 2 ≤ m → RdE (rdL leafI m s a obj d names items) (prL pj s obj n names items a) := by
  intro n
  induction n with
  | zero => intro _ _ _ _ h; omega
  | succ n ih =>
    intro names items a ha hn m hm
    obtain ⟨m, rfl⟩ : ∃ m', m = m' + 1 := ⟨m - 1, by omega⟩
    rw [rdL_eq, prL]
    obtain ⟨n1, n2⟩ := prN_rd s a obj names
    cases hN : rdN s a obj names with
    | none =>
      have hf := n2 hN
      have q : ∀ b t, takeOk s b true t = false := fun b t => rfl
      simp only [prX, hf, if_true, q, Bool.false_eq_true, if_false]
      exact rfl
    | some z =>
      obtain ⟨nm, a'⟩ := z
      rw [n1 nm a' hN]
      simp only [prX, Bool.false_eq_true, if_false]
      have hb := rdN_bnd ha hN
      have hr := hrd a' hb.2 m (by omega)
      have hpb := hpj a' hb.2
      cases hJ : rdJ leafI m s a' d with
      | none =>
        rw [hJ] at hr
        have hf : (pj a').2.2 = true := hr
        have q : ∀ b t, takeOk s b true t = false := fun b t => rfl
        simp only [hf, q, Bool.false_eq_true, if_false]
        exact rfl
      | some y =>
        obtain ⟨x, e⟩ := y
        rw [hJ] at hr
        have hr : pj a' = (x, e, false) := hr
        rw [hr] at hpb ⊢
        have hpb1 : a' ≤ e := hpb.1
        have hpb2 : e ≤ s.length := hpb.2
        have hg := pass_ge s e
        simp only [takeOk1, Bool.not_false, Bool.true_and, decide_eq_true_eq, pass_pass]
        by_cases c1 : s[pass s e]? = some (shutP obj)
        · rw [if_pos c1, if_pos c1]; exact rfl
        rw [if_neg c1, if_neg c1]
        by_cases c2 : s[pass s e]? = some 44
        · rw [if_pos c2, if_pos c2]
          have hlt := (List.getElem?_eq_some_iff.1 c2).1
          exact ih nm (items ++ [x]) (pass s e + 1) hlt (by omega) m (by omega)
        · rw [if_neg c2, if_neg c2]; exact rfl
theorem prP_rd {pj : Nat → DJson × Nat × Bool} {s : Bs} {obj : Bool} {d : Nat} (hpj : ∀ a, a ≤ s.length → a ≤ (pj a).2.1 ∧ (pj a).2.1 ≤ s.length)
    (hrd : ∀ a, a ≤ s.length → ∀ m, 3 * (s.length - a) + 1 ≤ m → RdE (rdJ leafI m s a d) (pj a)) (a : Nat) (ha : a ≤ s.length) (m : Nat) (hm : 3 * (s.length - a) + 3 ≤ m) :
    RdE (rdP leafI m s a obj d) (prP pj s obj a) := by
  obtain ⟨m, rfl⟩ : ∃ m', m = m' + 1 := ⟨m - 1, by omega⟩
  have h1 := pass_le ha
  have h2 := pass_ge s a
  rw [rdP]
  unfold prP
  simp only [takeOk1, Bool.not_false, Bool.true_and, decide_eq_true_eq]
  by_cases c1 : s[pass s a]? = some (shutP obj)
  · rw [if_pos c1, if_pos c1]; exact rfl
  rw [if_neg c1, if_neg c1, ← rdL_pass]
  exact prL_rd hpj hrd _ [] [] (pass s a) h1 (by omega) m (by omega)
theorem prJ_rd {s : Bs} : ∀ (d a : Nat), a ≤ s.length → ∀ m, 3 * (s.length - a) + 1 ≤ m → RdE (rdJ leafI m s a d) (prJ d s a) := by
  have key : ∀ d : Nat, (∀ d' : Nat, d = d' + 1 → ∀ a, a ≤ s.length → ∀ m, 3 * (s.length - a) + 1 ≤ m → RdE (rdJ leafI m s a d') (prJ d' s a)) → ∀ a, a ≤ s.length → ∀ m, 3 * (s.length - a) + 1 ≤ m → RdE (rdJ leafI m s a d) (prJ d s a) := by
    intro d ih a ha m hm
    obtain ⟨m, rfl⟩ : ∃ m', m = m' + 1 := ⟨m - 1, by omega⟩
    have h2 := pass_ge s a
    rw [rdJ]
    generalize hp : pass s a = p at *
    have hlf : ∀ {c : UInt8} {w : Bs}, (c :: w).isPrefixOf (s.drop p) = true → (c = 110 ∨ c = 116 ∨ c = 102) → ∃ b, s[p]? = some b ∧ b ≠ 34 ∧ ¬ (b = 91 ∨ b = 123) := by
      intro c w h hc
      refine ⟨c, word_at h, ?_, ?_⟩ <;> rcases hc with rfl | rfl | rfl <;> decide
    refine prJ_cases (fun r => RdE _ r) d s a p hp (fun h => ?_) (fun g1 h => ?_) (fun g1 g2 h => ?_) (fun h => ?_) (fun h => ?_) (fun g1 g2 g3 b hb n1 n2 => ?_) (fun b hb n1 hbr hd0 => ?_) (fun b d' hb n1 hbr hd => ?_)
    · obtain ⟨b, hb, n1, n2⟩ := hlf h (by simp)
      rw [hb]; simp only; rw [if_neg n1, if_neg n2]; unfold leafI; rw [if_pos h]; exact rfl
    · obtain ⟨b, hb, n1, n2⟩ := hlf h (by simp)
      rw [hb]; simp only; rw [if_neg n1, if_neg n2]; unfold leafI; rw [g1, if_neg (by simp), if_pos h]; exact rfl
    · obtain ⟨b, hb, n1, n2⟩ := hlf h (by simp)
      rw [hb]; simp only; rw [if_neg n1, if_neg n2]; unfold leafI; rw [g1, g2, if_neg (by simp), if_neg (by simp), if_pos h]; exact rfl
    · rw [h]; exact rfl
    · rw [h]; simp only [if_true]
      rw [rdStr_tx]
      cases hf : txF s p with
      | true => exact rfl
      | false => exact rfl
    · rw [hb]; simp only; rw [if_neg n1, if_neg n2]
      unfold leafI
      rw [g1, g2, g3, if_neg (by simp), if_neg (by simp), if_neg (by simp)]
      unfold numT numEnd
      cases hq : (intOk ((s.drop p).take (runP isNb (s.drop p))) || floatOk ((s.drop p).take (runP isNb (s.drop p)))) with
      | true => exact rfl
      | false => exact rfl
    · rw [hb]; simp only; rw [if_neg n1, if_pos hbr, if_pos hd0]; exact rfl
    · rw [hb]; simp only; rw [if_neg n1, if_pos hbr, if_neg (by omega)]
      have hlt := (List.getElem?_eq_some_iff.1 hb).1
      have e : d - 1 = d' := by omega
      rw [e]
      exact prP_rd (fun a ha => prJ_bnd d' a ha) (ih d' hd) (p + 1) hlt m (by omega)
  intro d
  induction d with
  | zero => exact key 0 (fun d' h => by omega)
  | succ d ih => exact key (d + 1) (fun d' h => by obtain rfl : d = d' := by omega
                                                   exact ih)
end Go.Proofs.YthagllbnkbahnaaDoor.Abs
