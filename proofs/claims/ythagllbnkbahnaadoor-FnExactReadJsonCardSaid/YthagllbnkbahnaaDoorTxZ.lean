/- The reference's reader of Json: blanks, a text. No condition. -/
import Derived.Test.YthagllbnkbahnaaDoorTxY
set_option linter.unusedVariables false
set_option linter.unusedSimpArgs false
namespace Go.Proofs.YthagllbnkbahnaaDoor.Abs
open Go
set_option maxHeartbeats 2000000
set_option maxRecDepth 100000
theorem isBl_iff (b : UInt8) : isBl b = (decide ((b.toNat : Int) = 32) || (decide ((b.toNat : Int) = 9) || (decide ((b.toNat : Int) = 10) || decide ((b.toNat : Int) = 13)))) :=
  u8_all (p := fun b => isBl b = (decide ((b.toNat : Int) = 32) || (decide ((b.toNat : Int) = 9) || (decide ((b.toNat : Int) = 10) || decide ((b.toNat : Int) = 13))))) (by decide) b
theorem c_l22Pass (s : Bs) (a : Nat) (ha : a ≤ s.length) (hs : s.length ≤ 1000000000) (K) : Ct Tryd.prog 10 [.str s, .int .i64 a] K (.int .i64 (pass s a : Nat)) K := by
  refine ct_fn { n0 := 5, ex := [], tk := [35] } Tryd.func10 rfl (by kernel_rfl) (by kernel_rfl) rfl ?_
  simp -implicitDefEqProofs [Tryd.f10]
  obtain ⟨I, hI⟩ : ∃ I : Nat → St → Prop, ∀ m st, I m st ↔ ∃ i, i ≤ s.length ∧ m = s.length - i ∧ pass s i = pass s a ∧
    st = { env := [(0, .str s), (1, .int .i64 i), (4, .int .i64 0)], loc := [], K := [] :: K } := ⟨_, fun _ _ => Iff.rfl⟩
  refine wC_loopI I (s.length - a) ((hI _ _).2 ⟨a, ha, rfl, rfl, rfl⟩) (St.le_of (by simp) (by simp) rfl (by simp)) ?_
  intro m st hst
  obtain ⟨i, hi, rfl, hp, rfl⟩ := (hI _ _).1 hst
  clear hst
  simp -implicitDefEqProofs
  rcases Nat.lt_or_ge i s.length with hlt | hge
  · obtain ⟨b, hx⟩ : ∃ b, s[i]? = some b := ⟨_, List.getElem?_eq_getElem hlt⟩
    have hxe : s[i]'hlt = b := (List.getElem?_eq_some_iff.1 hx).2
    have w1 : IntKind.i64.wrap ((i : Int) + 1) = (i + 1 : Nat) := by rw [wrap64 (by omega) (by omega)]; rfl
    have hbl := isBl_iff b
    have hps := pass_step hx
    simp -implicitDefEqProofs [hlt, hxe, hx, w1]
    intro _
    refine ⟨fun h => ?_, fun h1 h2 h3 h4 => ?_⟩
    · have hb : isBl b = true := by
        rw [hbl]
        rcases h with ((h | h) | h) | h <;> rw [decide_eq_true h] <;> simp
      rw [hb, if_pos rfl, hp] at hps
      exact ⟨s.length - (i + 1), by omega, _, St.le_of (by simp) (by simp [St.trunc, look, mapV, mapC, killP]) rfl (by simp [St.trunc, mapC]), (hI _ _).2 ⟨i + 1, by omega, rfl, hps.symm, rfl⟩⟩
    · have hb : isBl b = false := by
        rw [hbl, decide_eq_false h1, decide_eq_false h2, decide_eq_false h3, decide_eq_false h4]; rfl
      rw [hb, if_neg (by simp), hp] at hps
      rw [hps]
  · have hn : ¬ i < s.length := by omega
    simp -implicitDefEqProofs [hn]
    rw [← hp, pass_end hge]
    simp
theorem strG_end : ∀ {l : Bs} {odd : Bool} {k : Nat}, strG odd l = some k → l[k - 1]? = some 34 := by
  intro l; induction l with
  | nil => intro odd k h; simp [strG] at h
  | cons b r ih =>
    intro odd k h
    simp only [strG] at h
    split at h
    · cases h
    · split at h
      · next h1 => simp only [Option.some.injEq] at h; subst h; simp [h1.1]
      · cases h2 : strG (decide (b = 92) && !odd) r with
        | none => rw [h2] at h; cases h
        | some j =>
          rw [h2] at h
          simp only [Option.map_some, Option.some.injEq] at h
          have h3 := ih h2
          have h4 := (strG_le h2).1
          subst h
          rw [show j + 1 - 1 = (j - 1) + 1 by omega, List.getElem?_cons_succ, h3]
theorem strEnd_last {s : Bs} {i k : Nat} (h : strEnd s i = k) (h1 : i + 2 ≤ k) : s[k - 1]? = some 34 := by
  unfold strEnd at h
  split at h
  · split at h
    · omega
    · next j hj =>
      have h3 := strG_end hj
      have h4 := (strG_le hj).1
      have e : k = i + 1 + j := by omega
      rw [List.getElem?_drop] at h3
      rw [e, show i + 1 + j - 1 = i + 1 + (j - 1) by omega, h3]
  · omega
theorem beqd (c b : UInt8) : (c == b) = decide (b = c) := by
  by_cases e : b = c
  · simp [e]
  · rw [decide_eq_false e, beq_eq_false_iff_ne]; exact fun h => e h.symm
theorem pfx2 (T : Bs) (j : Nat) (c d : UInt8) : ([c, d] : Bs).isPrefixOf (T.drop j) = (decide (T[j]? = some c) && decide (T[j + 1]? = some d)) := by
  rcases Nat.lt_or_ge j T.length with h | h
  · obtain ⟨b, hb⟩ : ∃ b, T[j]? = some b := ⟨_, List.getElem?_eq_getElem h⟩
    rw [drop_cons hb, hb]
    rcases Nat.lt_or_ge (j + 1) T.length with h2 | h2
    · obtain ⟨b2, hb2⟩ : ∃ b, T[j + 1]? = some b := ⟨_, List.getElem?_eq_getElem h2⟩
      rw [drop_cons hb2, hb2]
      simp only [List.isPrefixOf, Bool.and_true, Option.some.injEq, beqd]
    · rw [drop_nil h2, List.getElem?_eq_none h2]; simp [List.isPrefixOf]
  · rw [drop_nil h, List.getElem?_eq_none h]; simp [List.isPrefixOf]
def strS (s : Bs) (a : Nat) : Bs × Int := match rdStr s a with
  | some x => (x.1, (x.2 : Int))
  | none => ([], -1)
theorem c_l22String (s : Bs) (a : Nat) (ha : a ≤ s.length) (hs : s.length ≤ 1000000) (K) : Ct Tryd.prog 20 [.str s, .int .i64 a] K (.tup [.str (strS s a).1, .int .i64 (strS s a).2]) K := by
  have hse := fun K => c_StringEndS s a (by omega) (by omega) K
  have hun := fun l h K => c_UnescapedS l h K
  generalize hR : strS s a = R
  unfold strS at hR
  rw [rdStr_tx] at hR
  unfold txF txT txA txB sliceQ at hR
  refine ct_fn { n0 := 10, ex := [], tk := [12, 54, 59, 60] } Tryd.func20 rfl (by kernel_rfl) (by kernel_rfl) rfl ?_
  simp -implicitDefEqProofs [Tryd.f20]
  refine callK_of (hse _) ?_
  rcases strEnd_cases s a with e | ⟨k, e, hk1, hk2, _⟩
  · rw [e] at hR ⊢
    simp at hR
    subst hR
    simp -implicitDefEqProofs
  · have hlast := strEnd_last e hk1
    rw [e] at hR ⊢
    have hk0 : ¬ ((k : Int) < 0) := by omega
    have hu2 := hun ((s.take k).drop a) (by rw [List.length_drop, List.length_take]; omega)
    simp only [hk0, decide_false, Bool.false_or, Int.toNat_natCast] at hR
    simp -implicitDefEqProofs [hk0]
    generalize hL : longG false ((s.take k).drop a) = L at hR
    obtain ⟨I, hI⟩ : ∃ I : Nat → St → Prop, ∀ m st, I m st ↔ ∃ i, a ≤ i ∧ i ≤ k ∧ m = k - i ∧ longG false ((s.take k).drop i) = L ∧
      st = { env := [(0, .str s), (1, .int .i64 a), (4, .str []), (5, .int .i64 0), (6, .int .i64 k), (7, .int .i64 i)], loc := [], K := [] :: K } := ⟨_, fun _ _ => Iff.rfl⟩
    refine wC_loopI I (k - a) ((hI _ _).2 ⟨a, Nat.le_refl _, by omega, rfl, hL, rfl⟩) (St.le_of (by simp) (by simp) rfl (by simp)) ?_
    intro m st hst
    obtain ⟨i, hai, hik, rfl, hg, rfl⟩ := (hI _ _).1 hst
    clear hst
    rcases Nat.lt_or_ge i k with hlt | hge
    · obtain ⟨b, hx⟩ : ∃ b, s[i]? = some b := ⟨_, List.getElem?_eq_getElem (by omega)⟩
      have hxe : s[i]'(by omega) = b := (List.getElem?_eq_some_iff.1 hx).2
      have hxt : (s.take k)[i]? = some b := by rw [List.getElem?_take, if_pos hlt, hx]
      have w1 : IntKind.i64.wrap ((i : Int) + 1) = (i + 1 : Nat) := by rw [wrap64 (by omega) (by omega)]; rfl
      have w2 : IntKind.i64.wrap ((i : Int) + 2) = (i + 2 : Nat) := by rw [wrap64 (by omega) (by omega)]; rfl
      have b9 : (b.toNat : Int) = 9 ↔ b = 9 := u8_eq (c := 9)
      have b92 : (b.toNat : Int) = 92 ↔ b = 92 := u8_eq (c := 92)
      rw [drop_cons hxt] at hg
      simp only [longG, pfx2] at hg
      simp -implicitDefEqProofs [hlt, hxe, hx, w1, b9, b92]
      have fail : L = true → R.1 = [] ∧ R.2 = -1 := by
        rintro rfl
        simp only [Bool.true_or, if_true] at hR
        subst hR; exact ⟨rfl, rfl⟩
      refine ⟨by omega, fun h9 => ?_, fun h9 => ⟨by omega, fun h92 => ?_, fun h92 => ?_⟩⟩
      · rw [if_pos h9] at hg; exact fail hg.symm
      · rw [if_neg h9, if_pos h92] at hg
        have hi1 : i + 1 < k := by
          rcases Nat.lt_or_ge (i + 1) k with h | h
          · exact h
          · have : k - 1 = i := by omega
            rw [this, hx, h92] at hlast
            exact absurd hlast (by decide)
        obtain ⟨c, hc⟩ : ∃ c, s[i + 1]? = some c := ⟨_, List.getElem?_eq_getElem (by omega)⟩
        have hct : (s.take k)[i + 1]? = some c := by rw [List.getElem?_take, if_pos hi1, hc]
        have c117 : (c.toNat : Int) = 117 ↔ c = 117 := u8_eq (c := 117)
        have w3 : IntKind.i64.wrap ((i : Int) + 1 + 1) = (i + 2 : Nat) := by rw [wrap64 (by omega) (by omega)]; omega
        have hT : longG true ((s.take k).drop (i + 1)) = longG false ((s.take k).drop (i + 2)) := by rw [drop_cons hct]; rfl
        have hgo : longG false ((s.take k).drop (i + 2)) = L → roundK I (k - i) 0 { env := [(0, .str s), (1, .int .i64 a), (4, .str []), (5, .int .i64 0), (6, .int .i64 k), (7, .int .i64 (IntKind.i64.wrap ((i : Int) + 1 + 1)))], loc := [(19, .int .i64 ((i : Int) + 1)), (20, .int .i64 (IntKind.i64.wrap ((i : Int) + 1 + 1)))], K := [] :: K } := by
          intro h
          rw [w3]
          exact ⟨k - (i + 2), by omega, _, St.le_of (by simp) (by simp [St.trunc, look, mapV, mapC, killP]) rfl (by simp [St.trunc, mapC]), (hI _ _).2 ⟨i + 2, by omega, by omega, rfl, h, rfl⟩⟩
        rw [hT, hct] at hg
        rw [hc, Option.getD_some, c117, w2]
        refine ⟨⟨by omega, by omega⟩, fun _ h => ⟨by omega, by omega⟩, fun h1 h2 h3 => ?_, fun h => ?_⟩
        · obtain ⟨d, hd⟩ : ∃ d, s[i + 2]? = some d := ⟨_, List.getElem?_eq_getElem (by omega)⟩
          have hdt : (s.take k)[i + 1 + 1]? = some d := by rw [List.getElem?_take, if_pos (by omega), hd]
          have c123 : (d.toNat : Int) = 123 ↔ d = 123 := u8_eq (c := 123)
          rw [show ((i + 2 : Nat) : Int).toNat = i + 2 by omega, hd, Option.getD_some, c123] at h3
          rw [hdt, h1, h3] at hg
          exact fail (by simpa using hg.symm)
        · refine hgo ?_
          rw [← hg]
          have : (decide (some c = some (117 : UInt8)) && decide ((s.take k)[i + 1 + 1]? = some 123)) = false := by
            by_cases e1 : c = 117
            · rcases Nat.lt_or_ge (i + 2) k with h2 | h2
              · obtain ⟨d, hd⟩ : ∃ d, s[i + 2]? = some d := ⟨_, List.getElem?_eq_getElem (by omega)⟩
                have hdt : (s.take k)[i + 1 + 1]? = some d := by rw [List.getElem?_take, if_pos (by omega), hd]
                have c123 : (d.toNat : Int) = 123 ↔ d = 123 := u8_eq (c := 123)
                have h3 := h e1 (by omega)
                rw [show ((i + 2 : Nat) : Int).toNat = i + 2 by omega, hd, Option.getD_some, c123] at h3
                rw [hdt]; simp [h3]
              · rw [List.getElem?_eq_none (by rw [List.length_take]; omega)]; simp
            · simp [e1]
          rw [this, Bool.false_or]
      · rw [if_neg h9, if_neg h92] at hg
        exact ⟨k - (i + 1), by omega, _, St.le_of (by simp) (by simp [St.trunc, look, mapV, mapC, killP]) rfl (by simp [St.trunc, mapC]), (hI _ _).2 ⟨i + 1, by omega, by omega, rfl, hg, rfl⟩⟩
    · obtain rfl : i = k := by omega
      rw [drop_nil (by rw [List.length_take]; omega)] at hg
      simp only [longG] at hg
      subst hg
      have hn : ¬ i < i := by omega
      simp -implicitDefEqProofs
      refine ⟨by omega, callK_of (hu2 _) ?_⟩
      generalize unesc ((s.take i).drop a) = q at *
      obtain ⟨t, ok⟩ := q
      cases ok <;> simp at hR <;> subst hR <;> simp -implicitDefEqProofs
end Go.Proofs.YthagllbnkbahnaaDoor.Abs
