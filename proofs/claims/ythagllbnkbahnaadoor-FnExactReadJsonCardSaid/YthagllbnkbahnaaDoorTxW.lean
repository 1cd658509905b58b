/- The program's reader of Json: a value, parts: contracts. No condition. -/
import Derived.Test.YthagllbnkbahnaaDoorTxO
set_option linter.unusedVariables false
set_option linter.unusedSimpArgs false
namespace Go.Proofs.YthagllbnkbahnaaDoor.Abs
open Go
set_option maxHeartbeats 2000000
set_option maxRecDepth 100000
/-- A reader that has failed reads no more. -/
theorem c_jsonF (A : List (List (List AC))) (X : List (List AC)) (s : Bs) (a : Nat) (d : Int) (Y : List (List AC)) (C : List (List (List AC))) (ha : a ≤ s.length) (hs : s.length ≤ 1000000) :
    Ct Tryd.prog 11 [.ptr A.length X.length 0, .int .i64 d] (KR A X s a true Y C) (.agg (encL .of (tJson zJ))) (KR A X s (pass s a : Nat) true Y C) := by
  have hp := pass_le ha
  have tk : ∀ (A : List (List (List AC))) (t : Bs) (b : Nat), b ≤ s.length → pass s b = pass s a → Ct Tryd.prog 26 [.ptr A.length X.length 0, .str t] (KR A X s b true Y C) (.bool false) (KR A X s (pass s a : Nat) true Y C) := by
    intro A t b hb he
    have := c_take A X s b true Y C t hb (by omega)
    simpa [takeOk, he] using this
  refine ct_fn { n0 := 8, ex := [8, 9, 10], tk := [17, 20, 41, 55, 56, 65, 66, 73, 86] } Tryd.func11 rfl (by kernel_rfl) (by kernel_rfl) rfl ?_
  simp -implicitDefEqProofs [Tryd.f11]
  intro _
  obtain ⟨I, hI⟩ : ∃ I : Nat → St → Prop, ∀ m st, I m st ↔ ∃ i b, i ≤ 3 ∧ b ≤ s.length ∧ pass s b = pass s a ∧ (i = 3 → b = pass s a) ∧ m = 3 - i ∧
    st = { env := [(0, .ptr (A.length + 1) X.length 0), (1, .int .i64 d), (4, .ptr 0 0 0), (8, .sl (.of 9) 3 [.str [110, 117, 108, 108], .str [116, 114, 117, 101], .str [102, 97, 108, 115, 101]]), (9, .int .i64 3), (10, .int .i64 i)], loc := [],
           K := [[.int .i64 0, .str [], .sl .nil 0 [], .sl .nil 0 []]] :: KR A X s b true Y C } := ⟨_, fun _ _ => Iff.rfl⟩
  refine wC_loopI I 3 ((hI _ _).2 ⟨0, a, by omega, ha, rfl, by omega, rfl, rfl⟩) (St.le_of (by simp) (by simp) rfl (by simp)) ?_
  intro m st hst
  obtain ⟨i, b, hi, hb, hpb, hb3, rfl, rfl⟩ := (hI _ _).1 hst
  clear hst
  have hpp := pass_pass s a
  have v1 : IntKind.i64.wrap 1 = 1 := rfl
  have v2 : IntKind.i64.wrap 2 = 2 := rfl
  have v3 : IntKind.i64.wrap 3 = 3 := rfl
  have v4 : IntKind.i64.wrap 4 = 4 := rfl
  have v5 : IntKind.i64.wrap 5 = 5 := rfl
  rcases (by omega : i = 0 ∨ i = 1 ∨ i = 2 ∨ i = 3) with rfl | rfl | rfl | rfl
  · simp -implicitDefEqProofs
    refine callK_of (tk ([[.int .i64 0, .str [], .sl .nil 0 [], .sl .nil 0 []]] :: A) _ b hb hpb) ?_
    simp -implicitDefEqProofs [v1, v2, v3]
    exact ⟨2, by omega, _, St.le_of (by simp) (by simp [St.trunc, look, mapV, mapC, killP]) rfl (by simp [St.trunc, mapC]), (hI _ _).2 ⟨1, pass s a, by omega, hp, hpp, by omega, rfl, rfl⟩⟩
  · simp -implicitDefEqProofs
    refine callK_of (tk ([[.int .i64 0, .str [], .sl .nil 0 [], .sl .nil 0 []]] :: A) _ b hb hpb) ?_
    simp -implicitDefEqProofs [v1, v2, v3]
    exact ⟨1, by omega, _, St.le_of (by simp) (by simp [St.trunc, look, mapV, mapC, killP]) rfl (by simp [St.trunc, mapC]), (hI _ _).2 ⟨2, pass s a, by omega, hp, hpp, by omega, rfl, rfl⟩⟩
  · simp -implicitDefEqProofs
    refine callK_of (tk ([[.int .i64 0, .str [], .sl .nil 0 [], .sl .nil 0 []]] :: A) _ b hb hpb) ?_
    simp -implicitDefEqProofs [v1, v2, v3]
    exact ⟨0, by omega, _, St.le_of (by simp) (by simp [St.trunc, look, mapV, mapC, killP]) rfl (by simp [St.trunc, mapC]), (hI _ _).2 ⟨3, pass s a, by omega, hp, hpp, by omega, rfl, rfl⟩⟩
  · obtain rfl := hb3 rfl
    simp -implicitDefEqProofs
    refine wRun_draw true rfl (by decide +kernel) ?_
    simp -implicitDefEqProofs (maxDischargeDepth := 6) [zJ, AC.le_agg, tJson, encL, encT, encR, tJsonS, tStrS]
/-- A value, where the parts are known. -/
theorem c_jsonW (A : List (List (List AC))) (X : List (List AC)) (s : Bs) (a d : Nat) (Y : List (List AC)) (C : List (List (List AC))) (ha : a ≤ s.length) (hs : s.length ≤ 1000000) (hd : d ≤ 20) (j : DJson) (a' : Nat) (f' : Bool) (p : Nat) (hp0 : pass s a = p)
    (h1 : nullW.isPrefixOf (s.drop p) = true → j = ⟨1, [], [], []⟩ ∧ a' = p + 4 ∧ f' = false)
    (h2 : nullW.isPrefixOf (s.drop p) = false → trueW.isPrefixOf (s.drop p) = true → j = ⟨2, [], [], []⟩ ∧ a' = p + 4 ∧ f' = false)
    (h3 : nullW.isPrefixOf (s.drop p) = false → trueW.isPrefixOf (s.drop p) = false → falseW.isPrefixOf (s.drop p) = true → j = ⟨3, [], [], []⟩ ∧ a' = p + 5 ∧ f' = false)
    (h4 : s.length ≤ p → j = zJ ∧ a' = p ∧ f' = true)
    (h5 : s[p]? = some 34 → j = ⟨5, txT s p, [], []⟩ ∧ a' = txA s p ∧ f' = txF s p)
    (h6 : nullW.isPrefixOf (s.drop p) = false → trueW.isPrefixOf (s.drop p) = false → falseW.isPrefixOf (s.drop p) = false → ∀ b, s[p]? = some b → b ≠ 34 → b ≠ 91 → b ≠ 123 → j = ⟨4, numT s p, [], []⟩ ∧ a' = numEnd s p ∧ f' = !(intOk (numT s p) || floatOk (numT s p)))
    (h7 : ∀ b, s[p]? = some b → b = 91 ∨ b = 123 → d = 0 → j = zJ ∧ a' = p ∧ f' = true)
    (h8 : ∀ b, s[p]? = some b → b = 91 ∨ b = 123 → d ≠ 0 → ∀ A : List (List (List AC)), Ct Tryd.prog 29 [.ptr A.length X.length 0, .bool (decide (b = 123)), .int .i64 ((d : Int) - 1)] (KR A X s ((p : Int) + 1) false Y C) (.agg (encL .of (tJson j))) (KR A X s a' f' Y C)) :
    Ct Tryd.prog 11 [.ptr A.length X.length 0, .int .i64 d] (KR A X s a false Y C) (.agg (encL .of (tJson j))) (KR A X s a' f' Y C) := by
  have hp := pass_le ha
  have hpp := pass_pass s a
  rw [hp0] at hp hpp
  have tk : ∀ (A : List (List (List AC))) (t : Bs) (b : Nat), b ≤ s.length → pass s b = p → ∀ q, t.isPrefixOf (s.drop p) = q → Ct Tryd.prog 26 [.ptr A.length X.length 0, .str t] (KR A X s b false Y C) (.bool q) (KR A X s ((p + (if q then t.length else 0) : Nat) : Int) false Y C) := by
    intro A t b hb he q hq
    have := c_take A X s b false Y C t hb (by omega)
    simpa [takeOk, he, hq] using this
  refine ct_fn { n0 := 8, ex := [8, 9, 10], tk := [17, 20, 41, 55, 56, 65, 66, 73, 86] } Tryd.func11 rfl (by kernel_rfl) (by kernel_rfl) rfl ?_
  simp -implicitDefEqProofs [Tryd.f11]
  intro _
  obtain ⟨I, hI⟩ : ∃ I : Nat → St → Prop, ∀ m st, I m st ↔ ∃ i b, i ≤ 3 ∧ b ≤ s.length ∧ pass s b = p ∧ (i = 3 → b = p) ∧ m = 3 - i ∧ (1 ≤ i → nullW.isPrefixOf (s.drop p) = false) ∧ (2 ≤ i → trueW.isPrefixOf (s.drop p) = false) ∧ (3 ≤ i → falseW.isPrefixOf (s.drop p) = false) ∧
    st = { env := [(0, .ptr (A.length + 1) X.length 0), (1, .int .i64 d), (4, .ptr 0 0 0), (8, .sl (.of 9) 3 [.str [110, 117, 108, 108], .str [116, 114, 117, 101], .str [102, 97, 108, 115, 101]]), (9, .int .i64 3), (10, .int .i64 i)], loc := [],
           K := [[.int .i64 0, .str [], .sl .nil 0 [], .sl .nil 0 []]] :: KR A X s b false Y C } := ⟨_, fun _ _ => Iff.rfl⟩
  refine wC_loopI I 3 ((hI _ _).2 ⟨0, a, by omega, ha, hp0, by omega, rfl, by omega, by omega, by omega, rfl⟩) (St.le_of (by simp) (by simp) rfl (by simp)) ?_
  intro m st hst
  obtain ⟨i, b, hi, hb, hpb, hb3, rfl, g1, g2, g3, rfl⟩ := (hI _ _).1 hst
  clear hst
  have v1 : IntKind.i64.wrap 1 = 1 := rfl
  have v2 : IntKind.i64.wrap 2 = 2 := rfl
  have v3 : IntKind.i64.wrap 3 = 3 := rfl
  have v4 : IntKind.i64.wrap 4 = 4 := rfl
  have v5 : IntKind.i64.wrap 5 = 5 := rfl
  rcases (by omega : i = 0 ∨ i = 1 ∨ i = 2 ∨ i = 3) with rfl | rfl | rfl | rfl
  · cases hq : nullW.isPrefixOf (s.drop p) with
    | false =>
      simp -implicitDefEqProofs
      refine callK_of (tk ([[.int .i64 0, .str [], .sl .nil 0 [], .sl .nil 0 []]] :: A) _ b hb hpb _ hq) ?_
      simp -implicitDefEqProofs [v1, v2, v3]
      exact ⟨2, by omega, _, St.le_of (by simp) (by simp [St.trunc, look, mapV, mapC, killP]) rfl (by simp [St.trunc, mapC]), (hI _ _).2 ⟨1, p, by omega, hp, hpp, by omega, rfl, fun _ => hq, by omega, by omega, rfl⟩⟩
    | true =>
      obtain ⟨rfl, rfl, rfl⟩ := h1 hq
      simp -implicitDefEqProofs
      refine callK_of (tk ([[.int .i64 0, .str [], .sl .nil 0 [], .sl .nil 0 []]] :: A) _ b hb hpb _ hq) ?_
      simp -implicitDefEqProofs (maxDischargeDepth := 6) [v1, v2, v3, AC.le_agg, tJson, encL, encT, encR, tJsonS, tStrS, nullW]
  · cases hq : trueW.isPrefixOf (s.drop p) with
    | false =>
      simp -implicitDefEqProofs
      refine callK_of (tk ([[.int .i64 0, .str [], .sl .nil 0 [], .sl .nil 0 []]] :: A) _ b hb hpb _ hq) ?_
      simp -implicitDefEqProofs [v1, v2, v3]
      exact ⟨1, by omega, _, St.le_of (by simp) (by simp [St.trunc, look, mapV, mapC, killP]) rfl (by simp [St.trunc, mapC]), (hI _ _).2 ⟨2, p, by omega, hp, hpp, by omega, rfl, fun _ => g1 (by omega), fun _ => hq, by omega, rfl⟩⟩
    | true =>
      obtain ⟨rfl, rfl, rfl⟩ := h2 (g1 (by omega)) hq
      simp -implicitDefEqProofs
      refine callK_of (tk ([[.int .i64 0, .str [], .sl .nil 0 [], .sl .nil 0 []]] :: A) _ b hb hpb _ hq) ?_
      simp -implicitDefEqProofs (maxDischargeDepth := 6) [v1, v2, v3, AC.le_agg, tJson, encL, encT, encR, tJsonS, tStrS, trueW]
  · cases hq : falseW.isPrefixOf (s.drop p) with
    | false =>
      simp -implicitDefEqProofs
      refine callK_of (tk ([[.int .i64 0, .str [], .sl .nil 0 [], .sl .nil 0 []]] :: A) _ b hb hpb _ hq) ?_
      simp -implicitDefEqProofs [v1, v2, v3]
      exact ⟨0, by omega, _, St.le_of (by simp) (by simp [St.trunc, look, mapV, mapC, killP]) rfl (by simp [St.trunc, mapC]), (hI _ _).2 ⟨3, p, by omega, hp, hpp, by omega, rfl, fun _ => g1 (by omega), fun _ => g2 (by omega), fun _ => hq, rfl⟩⟩
    | true =>
      obtain ⟨rfl, rfl, rfl⟩ := h3 (g1 (by omega)) (g2 (by omega)) hq
      simp -implicitDefEqProofs
      refine callK_of (tk ([[.int .i64 0, .str [], .sl .nil 0 [], .sl .nil 0 []]] :: A) _ b hb hpb _ hq) ?_
      simp -implicitDefEqProofs (maxDischargeDepth := 6) [v1, v2, v3, AC.le_agg, tJson, encL, encT, encR, tJsonS, tStrS, falseW]
  · obtain rfl := hb3 rfl
    have g1 := g1 (by omega)
    have g2 := g2 (by omega)
    have g3 := g3 (by omega)
    simp -implicitDefEqProofs
    refine wRun_draw true rfl (by decide +kernel) ?_
    rcases Nat.lt_or_ge b s.length with hlt | hge
    · obtain ⟨x, hx⟩ : ∃ x, s[b]? = some x := ⟨_, List.getElem?_eq_getElem hlt⟩
      have hxe : s[b]'hlt = x := (List.getElem?_eq_some_iff.1 hx).2
      have b34 : (x.toNat : Int) = 34 ↔ x = 34 := u8_eq (c := 34)
      have b91 : (x.toNat : Int) = 91 ↔ x = 91 := u8_eq (c := 91)
      have b123 : (x.toNat : Int) = 123 ↔ x = 123 := u8_eq (c := 123)
      have w1 : IntKind.i64.wrap ((b : Int) + 1) = (b : Int) + 1 := wrap64 (by omega) (by omega)
      have w2 : IntKind.i64.wrap ((d : Int) - 1) = (d : Int) - 1 := wrap64 (by omega) (by omega)
      have hnl : ¬ s.length ≤ b := by omega
      simp -implicitDefEqProofs [hnl]
      refine wRun_draw true rfl (by decide +kernel) ?_
      simp -implicitDefEqProofs [hnl, hlt, hx, hxe, b34, b91, b123, w1, w2]
      have tx := c_text ([[.int .i64 0, .str [], .sl .nil 0 [], .sl .nil 0 []]] :: A) X s b Y C (by omega) hs
      have nu := c_number ([[.int .i64 0, .str [], .sl .nil 0 [], .sl .nil 0 []]] :: A) X s b Y C (by omega) hs
      rw [hpp] at tx
      refine ⟨fun e34 => callK_of tx ?_, fun n34 => ⟨fun n91 n123 => callK_of nu ?_, fun hbr => ⟨fun d0 => ?_, fun d0 => callK_of (h8 x hx ?_ d0 ([[.int .i64 0, .str [], .sl .nil 0 [], .sl .nil 0 []]] :: A)) ?_⟩⟩⟩
      · obtain ⟨rfl, rfl, rfl⟩ := h5 (e34 ▸ hx)
        simp -implicitDefEqProofs (maxDischargeDepth := 6) [v5, tJson, encL, encT, encR, tJsonS, tStrS, AC.le_agg]
      · obtain ⟨rfl, rfl, rfl⟩ := h6 g1 g2 g3 x hx n34 n91 n123
        simp -implicitDefEqProofs (maxDischargeDepth := 6) [v4, tJson, encL, encT, encR, tJsonS, tStrS, AC.le_agg]
      · obtain ⟨rfl, rfl, rfl⟩ := h7 x hx (by by_cases e : x = 91; exact .inl e; exact .inr (hbr e)) d0
        exact ⟨rfl, by simp (maxDischargeDepth := 6) [zJ, tJson, encL, encT, encR, tJsonS, tStrS, AC.le_agg]⟩
      · by_cases e : x = 91; exact .inl e; exact .inr (hbr e)
      · have hek := encL_len (m := .of) (r := tJson j)
        rw [tJson_len] at hek
        have htk : (encL .of (tJson j)).take 4 = encL .of (tJson j) := List.take_of_length_le (by omega)
        simp -implicitDefEqProofs [hek, htk]
    · obtain ⟨rfl, rfl, rfl⟩ := h4 hge
      simp -implicitDefEqProofs (maxDischargeDepth := 6) [hge, zJ, AC.le_agg, tJson, encL, encT, encR, tJsonS, tStrS]
end Go.Proofs.YthagllbnkbahnaaDoor.Abs
