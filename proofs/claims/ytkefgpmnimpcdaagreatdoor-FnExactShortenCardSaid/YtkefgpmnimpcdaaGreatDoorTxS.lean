/- Runes as texts, and where a text in quotes ends: contracts. No condition. -/
import Derived.Test.YtkefgpmnimpcdaaGreatDoorTxR
import Derived.Test.YtkefgpmnimpcdaaGreatDoorTxN
set_option linter.unusedVariables false
set_option linter.unusedSimpArgs false
namespace Go.Proofs.YtkefgpmnimpcdaaGreatDoor.Abs
open Go
set_option maxHeartbeats 1000000
set_option maxRecDepth 100000
theorem c_in (a b c : Int) (K) : Ct Tryz.prog 146 [.int .i64 a, .int .i64 b, .int .i64 c] K (.bool (inR a b c)) K := by
  refine ct_fn { n0 := 7, ex := [], tk := [] } Tryz.func146 rfl (by kernel_rfl) (by kernel_rfl) rfl ?_
  simp -implicitDefEqProofs [Tryz.f146, inR]
theorem c_isScalar (n : Int) (K) : Ct Tryz.prog 310 [.int .i64 n] K (.bool (scalar? n)) K := by
  refine ct_fn { n0 := 3, ex := [], tk := [4, 7] } Tryz.func310 rfl (by kernel_rfl) (by kernel_rfl) rfl ?_
  simp -implicitDefEqProofs [Tryz.f310]
  refine callK_of (c_in _ _ _ _) ?_
  simp -implicitDefEqProofs
  refine callK_still (fun _ => c_in _ _ _ _) ?_
  simp -implicitDefEqProofs [scalar?, inR]
theorem c_RuneTextI (n : Int) (K) : Ct Tryz.prog 294 [.int .i64 n] K (.str (runeText n)) K := by
  refine ct_fn { n0 := 3, ex := [], tk := [4, 8] } Tryz.func294 rfl (by kernel_rfl) (by kernel_rfl) rfl ?_
  simp -implicitDefEqProofs [Tryz.f294]
  refine callK_of (c_isScalar _ _) ?_
  cases h : scalar? n with
  | false => simp -implicitDefEqProofs [runeText_no h]
  | true =>
    obtain ⟨h0, h1, h2⟩ := scalar_iff.1 h
    have w1 : IntKind.i32.wrap n = n := by rw [IntKind.wrap_i32]; omega
    simp -implicitDefEqProofs [w1]
    refine callK_of (c_AppendRune n h _) ?_
    have hl := runeText_len (n := n)
    have h4 : (runeText n).length ≤ 4 := by rw [hl]; split <;> (try split) <;> (try split) <;> (try split) <;> omega
    have : (runeText n).length ≤ maxLen := by unfold maxLen; omega
    simp -implicitDefEqProofs [this]
theorem c_StringEnd (s : Bs) (i : Nat) (hs : s.length ≤ 1000000000) (hi : i ≤ 1000000000) (K) : Ct Tryz.prog 228 [.str s, .int .i64 i] K (.int .i64 (strEnd s i)) K := by
  generalize hr : strEnd s i = r
  refine ct_fn { n0 := 7, ex := [29, 30], tk := [11] } Tryz.func228 rfl (by kernel_rfl) (by kernel_rfl) rfl ?_
  simp -implicitDefEqProofs [Tryz.f228]
  intro hml
  refine callK_of (c_in _ _ _ _) ?_
  rcases Nat.lt_or_ge i s.length with hlt | hge
  · have e1 : inR (i : Int) 0 (IntKind.i64.wrap ((s.length : Int) - 1)) = true := by
      rw [wrap64 (by omega) (by omega)]; simp [inR]; omega
    obtain ⟨b, hx⟩ : ∃ b, s[i]? = some b := ⟨_, List.getElem?_eq_getElem hlt⟩
    have hxe : s[i]'hlt = b := (List.getElem?_eq_some_iff.1 hx).2
    simp -implicitDefEqProofs [e1, hlt, hxe, hx]
    have hb : (b.toNat : Int) = 34 ↔ b = 34 := u8_eq (c := 34)
    unfold strEnd at hr
    rw [hx] at hr
    refine ⟨fun h => ?_, fun h => ?_⟩
    · rw [if_neg (fun e => h (hb.2 (Option.some.inj e)))] at hr
      exact hr.symm
    · rw [if_pos (congrArg some (hb.1 h))] at hr
      have w1 : IntKind.i64.wrap ((i : Int) + 1) = (i + 1 : Nat) := by rw [wrap64 (by omega) (by omega)]; rfl
      obtain ⟨I, hI⟩ : ∃ I : Nat → St → Prop, ∀ m st, I m st ↔ ∃ (j : Nat) (odd : Bool), i < j ∧ j ≤ s.length ∧ m = s.length - j ∧ (match strG odd (s.drop j) with | none => -1 | some k => ((j + k : Nat) : Int)) = r ∧
        st = { env := [(0, .str s), (1, .int .i64 i), (4, .int .i64 0), (5, .bool odd), (6, .int .i64 j)], loc := [], K := [] :: K } := ⟨_, fun _ _ => Iff.rfl⟩
      refine wC_loopI I (s.length - (i + 1)) ((hI _ _).2 ⟨i + 1, false, by omega, by omega, rfl, hr, rfl⟩) (St.le_of (by simp) (by simp [w1]) rfl (by simp)) ?_
      intro m st hst
      obtain ⟨j, odd, hij, hj, rfl, hg, rfl⟩ := (hI _ _).1 hst
      rcases Nat.lt_or_ge j s.length with hjl | hjg
      · obtain ⟨c, hc⟩ : ∃ c, s[j]? = some c := ⟨_, List.getElem?_eq_getElem hjl⟩
        have hce : s[j]'hjl = c := (List.getElem?_eq_some_iff.1 hc).2
        have w2 : IntKind.i64.wrap ((j : Int) + 1) = (j + 1 : Nat) := by rw [wrap64 (by omega) (by omega)]; rfl
        have c10 : (c.toNat : Int) = 10 ↔ c = 10 := u8_eq (c := 10)
        have c13 : (c.toNat : Int) = 13 ↔ c = 13 := u8_eq (c := 13)
        have c34 : (c.toNat : Int) = 34 ↔ c = 34 := u8_eq (c := 34)
        have c92 : (c.toNat : Int) = 92 ↔ c = 92 := u8_eq (c := 92)
        rw [drop_cons hc] at hg
        simp only [strG] at hg
        have nxt : ¬ (c = 10 ∨ c = 13) → ¬ (c = 34 ∧ odd = false) → ∀ (l : List (Nat × AC)) (v : Bool), roundK I (s.length - j) 0 { env := [(0, .str s), (1, .int .i64 i), (4, .int .i64 0), (5, .bool (decide (c = 92) && !odd)), (6, .int .i64 ((j : Int) + 1)), (29, .int .u8 c.toNat), (30, .bool v)], loc := l, K := [] :: K } := by
          intro h1 h2 l v
          rw [if_neg h1, if_neg h2] at hg
          refine ⟨s.length - (j + 1), by omega, _, St.le_of (by simp) (by simp [St.trunc, look, mapV, mapC, killP]) rfl (by simp [St.trunc, mapC]), (hI _ _).2 ⟨j + 1, decide (c = 92) && !odd, by omega, by omega, rfl, ?_, rfl⟩⟩
          cases hG : strG (decide (c = 92) && !odd) (s.drop (j + 1)) with
          | none => rw [hG] at hg; exact hg
          | some k => rw [hG] at hg; simp only [Option.map_some] at hg; rw [← hg]; show ((j + 1 + k : Nat) : Int) = ((j + (k + 1) : Nat) : Int); congr 1; omega
        simp -implicitDefEqProofs [hjl, hce, hc, w2, c10, c13, c34, c92]
        refine fun _ => ⟨fun h10 => ⟨fun _ => ?_, fun h => absurd h10 h⟩, fun h10 => ⟨fun h13 => ?_, fun h13 => ⟨fun h34 => ⟨fun ho => ?_, fun ho => ?_⟩, fun h34 => ?_⟩⟩⟩
        · rw [if_pos (.inl h10)] at hg; exact hg.symm
        · rw [if_pos (.inr h13)] at hg; exact hg.symm
        · rw [if_neg (by simp [h10, h13]), if_pos ⟨h34, ho⟩] at hg; rw [← hg]; simp
        · exact nxt (by simp [h10, h13]) (by simp [ho]) _ _
        · exact nxt (by simp [h10, h13]) (by simp [h34]) _ _
      · have e : j = s.length := by omega
        subst e
        rw [drop_nil (Nat.le_refl _)] at hg
        simp only [strG] at hg
        simp -implicitDefEqProofs [← hg]
  · have e1 : inR (i : Int) 0 (IntKind.i64.wrap ((s.length : Int) - 1)) = false := by
      rw [wrap64 (by omega) (by omega)]; simp [inR]; omega
    have hx : s[i]? = none := List.getElem?_eq_none hge
    unfold strEnd at hr
    rw [hx, if_neg (by simp)] at hr
    simp -implicitDefEqProofs [e1, ← hr]

theorem c_StringEndS (s : Bs) (i : Nat) (hs : s.length ≤ 1000000000) (hi : i ≤ 1000000000) (K) : Ct Tryz.prog 143 [.str s, .int .i64 i] K (.int .i64 (strEnd s i)) K := by
  generalize hr : strEnd s i = r
  refine ct_fn { n0 := 6, ex := [30, 35], tk := [] } Tryz.func143 rfl (by kernel_rfl) (by kernel_rfl) rfl ?_
  simp -implicitDefEqProofs [Tryz.f143]
  rcases Nat.lt_or_ge i s.length with hlt | hge
  · obtain ⟨b, hx⟩ : ∃ b, s[i]? = some b := ⟨_, List.getElem?_eq_getElem hlt⟩
    have hxe : s[i]'hlt = b := (List.getElem?_eq_some_iff.1 hx).2
    have hb : (b.toNat : Int) = 34 ↔ b = 34 := u8_eq (c := 34)
    unfold strEnd at hr
    rw [hx] at hr
    simp -implicitDefEqProofs [hlt, hxe, hx]
    refine fun _ => ⟨fun h => ?_, fun h => ?_⟩
    · rw [if_neg (fun e => (by omega : ¬ (b.toNat : Int) = 34) (hb.2 (Option.some.inj e)))] at hr
      exact hr.symm
    · rw [if_pos (congrArg some (hb.1 h))] at hr
      have w1 : IntKind.i64.wrap ((i : Int) + 1) = (i + 1 : Nat) := by rw [wrap64 (by omega) (by omega)]; rfl
      obtain ⟨I, hI⟩ : ∃ I : Nat → St → Prop, ∀ m st, I m st ↔ ∃ (j : Nat), i < j ∧ j ≤ s.length + 1 ∧ m = s.length + 1 - j ∧ (match strG false (s.drop j) with | none => -1 | some k => ((j + k : Nat) : Int)) = r ∧
        st = { env := [(0, .str s), (1, .int .i64 i), (4, .int .i64 0), (5, .int .i64 j)], loc := [], K := [] :: K } := ⟨_, fun _ _ => Iff.rfl⟩
      refine wC_loopI I (s.length + 1 - (i + 1)) ((hI _ _).2 ⟨i + 1, by omega, by omega, rfl, hr, rfl⟩) (St.le_of (by simp) (by simp [w1]) rfl (by simp)) ?_
      intro m st hst
      obtain ⟨j, hij, hj, rfl, hg, rfl⟩ := (hI _ _).1 hst
      rcases Nat.lt_or_ge j s.length with hjl | hjg
      · obtain ⟨c, hc⟩ : ∃ c, s[j]? = some c := ⟨_, List.getElem?_eq_getElem hjl⟩
        have hce : s[j]'hjl = c := (List.getElem?_eq_some_iff.1 hc).2
        have w2 : IntKind.i64.wrap ((j : Int) + 1) = (j + 1 : Nat) := by rw [wrap64 (by omega) (by omega)]; rfl
        have w3 : IntKind.i64.wrap (((j + 1 : Nat) : Int) + 1) = (j + 2 : Nat) := by rw [wrap64 (by omega) (by omega)]; omega
        have c10 : (c.toNat : Int) = 10 ↔ c = 10 := u8_eq (c := 10)
        have c13 : (c.toNat : Int) = 13 ↔ c = 13 := u8_eq (c := 13)
        have c34 : (c.toNat : Int) = 34 ↔ c = 34 := u8_eq (c := 34)
        have c92 : (c.toNat : Int) = 92 ↔ c = 92 := u8_eq (c := 92)
        rw [drop_cons hc] at hg
        simp only [strG] at hg
        have w4 : IntKind.i64.wrap ((j : Int) + 1 + 1) = (j + 2 : Nat) := by rw [wrap64 (by omega) (by omega)]; omega
        have env_ok : ∀ (j' : Nat), i < j' → j < j' → j' ≤ s.length + 1 → (match strG false (s.drop j') with | none => -1 | some k => ((j' + k : Nat) : Int)) = r → ∀ (l : List (Nat × AC)) (v : Bool) (u : Int), u = j' → roundK I (s.length + 1 - j) 0 { env := [(0, .str s), (1, .int .i64 i), (4, .int .i64 0), (5, .int .i64 u), (30, .int .u8 c.toNat), (35, .bool v)], loc := l, K := [] :: K } := by
          rintro j' h1 h2 h3 h4 l v u rfl
          exact ⟨s.length + 1 - j', by omega, _, St.le_of (by simp) (by simp [St.trunc, look, mapV, mapC, killP]) rfl (by simp [St.trunc, mapC]), (hI _ _).2 ⟨j', h1, h3, rfl, h4, rfl⟩⟩
        have nxt : ¬ (c = 10 ∨ c = 13) → ¬ c = 34 → ¬ c = 92 → ∀ (l : List (Nat × AC)) (v : Bool), roundK I (s.length + 1 - j) 0 { env := [(0, .str s), (1, .int .i64 i), (4, .int .i64 0), (5, .int .i64 ((j : Int) + 1)), (30, .int .u8 c.toNat), (35, .bool v)], loc := l, K := [] :: K } := by
          intro h1 h2 h3 l v
          rw [if_neg h1, if_neg (fun h => h2 h.1), decide_eq_false h3, Bool.false_and] at hg
          refine env_ok (j + 1) (by omega) (by omega) (by omega) ?_ l v _ (by omega)
          cases hG : strG false (s.drop (j + 1)) with
          | none => rw [hG] at hg; exact hg
          | some k => rw [hG] at hg; simp only [Option.map_some] at hg; rw [← hg]; show ((j + 1 + k : Nat) : Int) = ((j + (k + 1) : Nat) : Int); congr 1; omega
        have esc : c = 92 → (match (strG true (s.drop (j + 1))).map (· + 1) with | none => -1 | some k => ((j + k : Nat) : Int)) = r := by
          intro h
          rw [h, if_neg (by decide), if_neg (by decide)] at hg
          exact hg
        have bad : c = 92 → j + 1 < s.length → ((s[j + 1]?.getD 0).toNat : Int) = 10 ∨ ((s[j + 1]?.getD 0).toNat : Int) = 13 → r = -1 := by
          intro h h1 h2
          have h3 := esc h
          obtain ⟨d, hd⟩ : ∃ d, s[j + 1]? = some d := ⟨_, List.getElem?_eq_getElem h1⟩
          have d10 : (d.toNat : Int) = 10 ↔ d = 10 := u8_eq (c := 10)
          have d13 : (d.toNat : Int) = 13 ↔ d = 13 := u8_eq (c := 13)
          rw [hd] at h2
          simp only [Option.getD_some, d10, d13] at h2
          rw [drop_cons hd] at h3
          simp only [strG] at h3
          rw [if_pos h2] at h3
          exact h3.symm
        have skp : c = 92 → (j + 1 < s.length → ¬ ((s[j + 1]?.getD 0).toNat : Int) = 10 ∧ ¬ ((s[j + 1]?.getD 0).toNat : Int) = 13) → ∀ (l : List (Nat × AC)) (v : Bool), roundK I (s.length + 1 - j) 0 { env := [(0, .str s), (1, .int .i64 i), (4, .int .i64 0), (5, .int .i64 (IntKind.i64.wrap ((j : Int) + 1 + 1))), (30, .int .u8 c.toNat), (35, .bool v)], loc := l, K := [] :: K } := by
          intro h h2 l v
          have h3 := esc h
          refine env_ok (j + 2) (by omega) (by omega) (by omega) ?_ l v _ w4
          rcases Nat.lt_or_ge (j + 1) s.length with h1 | h1
          · obtain ⟨d, hd⟩ : ∃ d, s[j + 1]? = some d := ⟨_, List.getElem?_eq_getElem h1⟩
            have d10 : (d.toNat : Int) = 10 ↔ d = 10 := u8_eq (c := 10)
            have d13 : (d.toNat : Int) = 13 ↔ d = 13 := u8_eq (c := 13)
            have h2 := h2 h1
            rw [hd] at h2
            simp only [Option.getD_some, d10, d13] at h2
            rw [drop_cons hd] at h3
            simp only [strG] at h3
            rw [if_neg (by rintro (e | e); exact h2.1 e; exact h2.2 e), if_neg (by simp)] at h3
            simp only [Bool.not_true, Bool.and_false] at h3
            cases hG : strG false (s.drop (j + 2)) with
            | none => rw [show j + 1 + 1 = j + 2 by omega, hG] at h3; exact h3
            | some k => rw [show j + 1 + 1 = j + 2 by omega, hG] at h3; simp only [Option.map_some] at h3; rw [← h3]; show ((j + 2 + k : Nat) : Int) = ((j + (k + 1 + 1) : Nat) : Int); congr 1; omega
          · rw [drop_nil (by omega)] at h3 ⊢
            simpa [strG] using h3
        simp -implicitDefEqProofs [hjl, hce, hc, w2, c10, c13, c34, c92]
        have g1 : (j : Int) + 1 < s.length → 0 ≤ (j : Int) + 1 ∧ (j : Int) + 1 < s.length := by omega
        refine fun _ => ⟨fun h34 => ?_, fun h34 => ⟨fun h10 => ⟨fun _ => ?_, fun h => absurd h10 h⟩, fun h10 => ⟨fun h13 => ?_, fun h13 => ⟨fun h92 _ => ⟨g1, fun h _ => g1 h, fun h h2 => bad h92 (by omega) h2, fun h => skp h92 (fun h2 => h (by omega)) _ _⟩, fun h92 => ?_⟩⟩⟩⟩
        · rw [if_neg (by rw [h34]; decide), if_pos ⟨h34, trivial⟩] at hg; rw [← hg]; simp
        · rw [if_pos (.inl h10)] at hg; exact hg.symm
        · rw [if_pos (.inr h13)] at hg; exact hg.symm
        · exact nxt (by simp [h10, h13]) h34 h92 _ _
      · have e : s.drop j = [] := drop_nil hjg
        rw [e] at hg
        simp only [strG] at hg
        simp -implicitDefEqProofs [← hg]
        exact fun _ h => absurd h (by omega)
  · have hx : s[i]? = none := List.getElem?_eq_none hge
    unfold strEnd at hr
    rw [hx, if_neg (by simp)] at hr
    simp -implicitDefEqProofs [(by omega : ¬ i < s.length), hge, ← hr]
end Go.Proofs.YtkefgpmnimpcdaaGreatDoor.Abs
