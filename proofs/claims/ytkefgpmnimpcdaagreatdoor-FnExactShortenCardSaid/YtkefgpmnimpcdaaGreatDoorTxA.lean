/- Runes, texts, escapes: both sides' functions as contracts. No condition. -/
import Derived.Test.YtkefgpmnimpcdaaGreatDoorTxP
import Derived.Test.YtkefgpmnimpcdaaGreatDoorTxLib
set_option linter.unusedVariables false
set_option linter.unusedSimpArgs false
namespace Go.Proofs.YtkefgpmnimpcdaaGreatDoor.Abs
open Go
set_option maxHeartbeats 1000000
set_option maxRecDepth 100000
theorem c_isFigure (b : UInt8) (K) : Ct Tryz.prog 152 [.int .u8 b.toNat] K (.bool (isFig b)) K := by
  refine ct_fn { n0 := 3, ex := [], tk := [] } Tryz.func152 rfl (by kernel_rfl) (by kernel_rfl) rfl ?_
  simp -implicitDefEqProofs [Tryz.f152]
  rfl
theorem c_isLetter (b : UInt8) (K) : Ct Tryz.prog 233 [.int .u8 b.toNat] K (.bool (isLet b)) K := by
  refine ct_fn { n0 := 3, ex := [], tk := [] } Tryz.func233 rfl (by kernel_rfl) (by kernel_rfl) rfl ?_
  simp -implicitDefEqProofs [Tryz.f233]
  rfl
theorem c_l03Letter (b : UInt8) (K) : Ct Tryz.prog 133 [.int .u8 b.toNat] K (.bool (isLet b || isUn b)) K := by
  refine ct_fn { n0 := 3, ex := [], tk := [] } Tryz.func133 rfl (by kernel_rfl) (by kernel_rfl) rfl ?_
  simp -implicitDefEqProofs [Tryz.f133]
  rfl
theorem c_l03Figure (b : UInt8) (K) : Ct Tryz.prog 136 [.int .u8 b.toNat] K (.bool (isFig b)) K := by
  refine ct_fn { n0 := 3, ex := [], tk := [] } Tryz.func136 rfl (by kernel_rfl) (by kernel_rfl) rfl ?_
  simp -implicitDefEqProofs [Tryz.f136]
  rfl
theorem c_l01In (a b c : Int) (K) : Ct Tryz.prog 175 [.int .i64 a, .int .i64 b, .int .i64 c] K (.bool (decide (b ≤ a) && decide (a ≤ c))) K := by
  refine ct_fn { n0 := 7, ex := [], tk := [] } Tryz.func175 rfl (by kernel_rfl) (by kernel_rfl) rfl ?_
  simp -implicitDefEqProofs [Tryz.f175]
theorem c_l02Scalar (a : Int) (K) : Ct Tryz.prog 213 [.int .i64 a] K (.bool (scalar? a)) K := by
  refine ct_fn { n0 := 3, ex := [], tk := [4, 7] } Tryz.func213 rfl (by kernel_rfl) (by kernel_rfl) rfl ?_
  simp -implicitDefEqProofs [Tryz.f213]
  refine callK_of (c_l01In _ _ _ _) ?_
  simp -implicitDefEqProofs
  refine callK_still (fun _ => c_l01In _ _ _ _) ?_
  simp -implicitDefEqProofs
  unfold scalar?
  simp
theorem c_RuneText (n : Int) (K) : Ct Tryz.prog 132 [.int .i64 n] K (.str (runeText n)) K := by
  refine ct_fn { n0 := 3, ex := [], tk := [4, 11, 24, 42, 62] } Tryz.func132 rfl (by kernel_rfl) (by kernel_rfl) rfl ?_
  simp -implicitDefEqProofs [Tryz.f132]
  refine callK_of (c_l02Scalar n _) ?_
  simp -implicitDefEqProofs
  refine ⟨fun h => ?_, fun h => ?_⟩
  · simp [runeText, h]
  · obtain ⟨h1, h2, h3⟩ := scalar_iff.1 h
    obtain ⟨m, rfl⟩ : ∃ m : Nat, n = m := ⟨n.toNat, by omega⟩
    have t1 : (m : Int).tdiv 64 = (m / 64 : Nat) := rfl
    have t2 : (m : Int).tdiv 4096 = (m / 4096 : Nat) := rfl
    have t3 : (m : Int).tdiv 262144 = (m / 262144 : Nat) := rfl
    have t4 : (m : Int).tmod 64 = (m % 64 : Nat) := rfl
    have t5 : ((m / 64 : Nat) : Int).tmod 64 = (m / 64 % 64 : Nat) := rfl
    have t6 : ((m / 4096 : Nat) : Int).tmod 64 = (m / 4096 % 64 : Nat) := rfl
    have hx : 4 ≤ maxLen := by unfold maxLen; omega
    refine ⟨fun h4 => ⟨by omega, ?_⟩, fun h4 => ⟨fun h5 => ⟨by omega, ?_⟩, fun h5 => ⟨fun h6 => ⟨by omega, ?_⟩, fun h6 => ⟨hx, ?_⟩⟩⟩⟩
    · rw [wrap8 (by omega) (by omega)]
      simp only [runeText, h]
      rw [if_neg (by simp), if_pos (by omega)]
    · rw [t1, t4]
      simp (disch := omega) only [wrap64]
      rw [wrap8 (by omega) (by omega), wrap8 (by omega) (by omega)]
      simp only [runeText, h]
      rw [if_neg (by simp), if_neg (by omega), if_pos (by omega)]
      congr 3
    · rw [t1, t2, t4]
      simp (disch := omega) only [wrap64]
      rw [t5]
      rw [wrap8 (by omega) (by omega), wrap8 (by omega) (by omega), wrap8 (by omega) (by omega)]
      simp only [runeText, h]
      rw [if_neg (by simp), if_neg (by omega), if_neg (by omega), if_pos (by omega)]
      congr 3
    · rw [t1, t2, t3, t4]
      simp (disch := omega) only [wrap64]
      rw [t5, t6]
      rw [wrap8 (by omega) (by omega), wrap8 (by omega) (by omega), wrap8 (by omega) (by omega), wrap8 (by omega) (by omega)]
      simp only [runeText, h]
      rw [if_neg (by simp), if_neg (by omega), if_neg (by omega), if_neg (by omega)]
      congr 3
theorem c_RuneAtS (s : Bs) (i : Nat) (K) (hs : s.length ≤ 1000000000) (hi : i ≤ 1000000000) : Ct Tryz.prog 49 [.str s, .int .i64 i] K (.tup [.int .i64 (runeAt (s.drop i)).1, .int .i64 (runeAt (s.drop i)).2]) K := by
  rw [← runeS_eq]
  rcases Nat.lt_or_ge i s.length with hlt | hge
  · obtain ⟨b, hx⟩ : ∃ b, s[i]? = some b := ⟨_, List.getElem?_eq_getElem hlt⟩
    have hxe : s[i]'hlt = b := by rw [List.getElem?_eq_getElem hlt] at hx; exact Option.some.inj hx
    rw [drop_cons hx]
    have hRl : (s.drop (i + 1)).length = s.length - (i + 1) := List.length_drop
    have hRg : ∀ j : Nat, s[i + (j + 1)]? = (s.drop (i + 1))[j]? := fun j => by rw [List.getElem?_drop]; congr 1; omega
    generalize s.drop (i + 1) = R at *
    generalize hr : runeS (b :: R) = r
    simp only [runeS, List.length_cons] at hr
    have hb := b.toNat_lt
    have w1 : IntKind.i64.wrap (b.toNat : Int) = b.toNat := wrap64 (by omega) (by omega)
    refine ct_fn { n0 := 11, ex := [], tk := [26, 83, 87, 88] } Tryz.func49 rfl (by kernel_rfl) (by kernel_rfl) rfl ?_
    simp -implicitDefEqProofs [Tryz.f49, hx, hxe, hlt, w1]
    intro hml
    refine ⟨fun h => by omega, fun h => ?_, fun h => ⟨fun h2 h3 _ => ?_, fun h2 => ⟨fun h4 h5 _ => ?_, fun h4 => ⟨fun h6 h7 _ => ?_, fun h6 => ?_⟩⟩⟩⟩
    · rw [if_pos (by omega)] at hr
      subst hr; simp
    all_goals rw [if_neg (by omega)] at hr
    rotate_left 3
    · rcases many_cases b with ⟨hm, hc⟩ | ⟨hm, hl, hc⟩ | ⟨hm, hl, hc⟩ | ⟨hm, hl, hc⟩ <;> first | (exfalso; omega) | skip
      rw [if_pos hm] at hr
      subst hr; simp
    all_goals
      rcases many_cases b with ⟨hm, hc⟩ | ⟨hm, hl, hc⟩ | ⟨hm, hl, hc⟩ | ⟨hm, hl, hc⟩ <;> first | (exfalso; omega) | skip
      rw [if_neg (by omega)] at hr
      rw [wrap64 (by omega) (by omega)]
      refine ⟨fun h => ?_, fun h => ?_⟩
      · rw [if_pos (by omega)] at hr
        subst hr; simp
      rw [if_neg (by omega)] at hr
      obtain ⟨I, hI⟩ : ∃ I : Nat → St → Prop, ∀ m st, I m st ↔ ∃ (j : Nat) (n : Int), 1 ≤ j ∧ j ≤ manyOf b ∧ m = manyOf b - j ∧ contN ((R.take (manyOf b - 1)).drop (j - 1)) n = contN (R.take (manyOf b - 1)) (leadOf b) ∧ 0 ≤ n ∧ n < ((64 ^ j : Nat) : Int) ∧
        st = { env := [(0, .str s), (1, .int .i64 i), (4, .int .i64 0), (5, .int .i64 0), (6, .int .i64 b.toNat), (7, .int .i64 (manyOf b)), (8, .int .i64 n), (9, .int .i64 j)], loc := [], K := [] :: K } := ⟨_, fun _ _ => Iff.rfl⟩
      refine wC_loopI I (manyOf b - 1) ((hI _ _).2 ⟨1, leadOf b, by omega, by omega, by omega, by simp, by omega, by rw [Nat.pow_one]; omega, rfl⟩) (St.le_of (by simp) (by simp [hm, hl]; rw [wrap64 (by omega) (by omega)]) rfl (by simp)) ?_
      intro m st hst
      obtain ⟨j, n, hj1, hj2, rfl, hcn, hn0, hn1, rfl⟩ := (hI _ _).1 hst
      have hpw : ((64 ^ j : Nat) : Int) ≤ 16777216 := by
        have : 64 ^ j ≤ 64 ^ 4 := Nat.pow_le_pow_right (by omega) (by omega)
        omega
      rcases Nat.lt_or_ge j (manyOf b) with hjlt | hjge
      · obtain ⟨c, hc⟩ : ∃ c, R[j - 1]? = some c := ⟨_, List.getElem?_eq_getElem (by omega)⟩
        have hxc : s[i + j]? = some c := by rw [← hc, ← hRg]; congr 1; omega
        have hxl : i + j < s.length := (List.getElem?_eq_some_iff.1 hxc).1
        have hxe2 : s[i + j]'hxl = c := (List.getElem?_eq_some_iff.1 hxc).2
        have hcl := c.toNat_lt
        have w2 : IntKind.i64.wrap (c.toNat : Int) = c.toNat := wrap64 (by omega) (by omega)
        have w3 : IntKind.i64.wrap ((i : Int) + j) = (i : Int) + j := wrap64 (by omega) (by omega)
        have w6 : ((i : Int) + j).toNat = i + j := by omega
        have hdr : (R.take (manyOf b - 1)).drop (j - 1) = c :: (R.take (manyOf b - 1)).drop j := by
          have : (R.take (manyOf b - 1))[j - 1]? = some c := by rw [List.getElem?_take, if_pos (by omega)]; exact hc
          rw [drop_cons this]; congr 2; omega
        rw [hdr, contN] at hcn
        simp -implicitDefEqProofs [hjlt, w3, w6, hxl, hxe2, hxc, w2]
        refine ⟨⟨by omega, by omega⟩, fun h => ?_, fun h h' => ?_⟩
        · rw [if_neg (by omega)] at hcn
          rw [← hcn] at hr
          simp only at hr
          subst hr; simp
        · rw [if_pos (by omega)] at hcn
          have w4 : IntKind.i64.wrap ((j : Int) + 1) = (j + 1 : Nat) := by rw [wrap64 (by omega) (by omega)]; rfl
          have w5 : IntKind.i64.wrap (IntKind.i64.wrap (IntKind.i64.wrap (n * 64) + c.toNat) - 128) = n * 64 + c.toNat - 128 := by
            simp (disch := omega) only [wrap64]
          rw [w4, w5]
          refine ⟨manyOf b - (j + 1), by omega, _, St.le_of (by simp) (by simp [St.trunc, look, mapV, mapC, killP]) rfl (by simp [St.trunc, mapC]), (hI _ _).2 ⟨j + 1, n * 64 + c.toNat - 128, by omega, by omega, rfl, by simpa using hcn, by omega, by rw [Nat.pow_succ]; omega, rfl⟩⟩
      · have e : j = manyOf b := by omega
        subst e
        rw [List.drop_of_length_le (by rw [List.length_take]; omega)] at hcn
        simp only [contN] at hcn
        rw [← hcn] at hr
        simp only at hr
        simp -implicitDefEqProofs
        refine callK_of (c_RuneText n _) ?_
        simp -implicitDefEqProofs
        intro hrl
        refine ⟨fun h => ?_, fun h => ?_⟩
        · rw [if_neg (by omega)] at hr
          subst hr; simp
        · rw [if_pos (by omega)] at hr
          subst hr; simp
  · rw [drop_nil hge]
    refine ct_fn { n0 := 11, ex := [], tk := [26, 83, 87, 88] } Tryz.func49 rfl (by kernel_rfl) (by kernel_rfl) rfl ?_
    simp -implicitDefEqProofs [Tryz.f49, hge]
    intro _
    simp [runeS]
end Go.Proofs.YtkefgpmnimpcdaaGreatDoor.Abs
