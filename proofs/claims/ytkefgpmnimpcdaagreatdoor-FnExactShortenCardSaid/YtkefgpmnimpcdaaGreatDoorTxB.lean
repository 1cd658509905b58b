/- Texts that are UTF-8; escapes: both sides' functions as contracts. No condition. -/
import Derived.Test.YtkefgpmnimpcdaaGreatDoorTxA
set_option linter.unusedVariables false
set_option linter.unusedSimpArgs false
namespace Go.Proofs.YtkefgpmnimpcdaaGreatDoor.Abs
open Go
set_option maxHeartbeats 1000000
set_option maxRecDepth 100000
theorem c_TextOk (s : Bs) (K) : Ct Tryz.prog 266 [.str s] K (.bool (textOk s)) K := by
  refine ct_fn { n0 := 3, ex := [], tk := [4] } Tryz.func266 rfl (by kernel_rfl) (by kernel_rfl) rfl ?_
  simp -implicitDefEqProofs [Tryz.f266]
  refine callK_of (c_ValidString s _) ?_
  simp -implicitDefEqProofs
  rfl
theorem c_TextOkS (s : Bs) (K) (hs : s.length ≤ 1000000000) : Ct Tryz.prog 216 [.str s] K (.bool (textOk s)) K := by
  refine ct_fn { n0 := 6, ex := [], tk := [13] } Tryz.func216 rfl (by kernel_rfl) (by kernel_rfl) rfl ?_
  simp -implicitDefEqProofs [Tryz.f216]
  obtain ⟨I, hI⟩ : ∃ I : Nat → St → Prop, ∀ m st, I m st ↔ ∃ i, i ≤ s.length ∧ m = s.length - i ∧ textOk (s.drop i) = textOk s ∧
    st = { env := [(0, .str s), (2, .bool false), (3, .int .i64 i)], loc := [], K := [] :: K } := ⟨_, fun _ _ => Iff.rfl⟩
  refine wC_loopI I s.length ((hI _ _).2 ⟨0, by omega, rfl, rfl, rfl⟩) (St.le_of (by simp) (by simp) rfl (by simp)) ?_
  intro m st hst
  obtain ⟨i, hi, rfl, ht, rfl⟩ := (hI _ _).1 hst
  rcases Nat.lt_or_ge i s.length with hlt | hge
  · obtain ⟨b, hx⟩ : ∃ b, s[i]? = some b := ⟨_, List.getElem?_eq_getElem hlt⟩
    have hst := textOk_step (l := s.drop i) (by rw [drop_cons hx]; simp)
    have hle := runeAt_le (l := s.drop i)
    rw [List.length_drop] at hle
    have hng := runeAt_neg (l := s.drop i)
    rw [List.drop_drop] at hst
    have hc := fun K => c_RuneAtS s i K hs (by omega)
    generalize runeAt (s.drop i) = r at *
    simp -implicitDefEqProofs [hlt]
    intro _
    refine callK_of (hc _) ?_
    simp -implicitDefEqProofs
    refine ⟨fun h => ?_, fun h => ?_⟩
    · rw [← ht, hst, if_pos (hng.1 h)]
    · have h2 : r.2 ≠ 0 := fun e => by have := hng.2 e; omega
      rw [if_neg h2, ht] at hst
      have w1 : IntKind.i64.wrap ((i : Int) + (r.2 : Int)) = ((i + r.2 : Nat) : Int) := by rw [wrap64 (by omega) (by omega)]; omega
      rw [w1]
      exact ⟨s.length - (i + r.2), by omega, _, St.le_of (by simp) (by simp [St.trunc, look, mapV, mapC, killP]) rfl (by simp [St.trunc, mapC]), (hI _ _).2 ⟨i + r.2, by omega, rfl, hst.symm, rfl⟩⟩
  · have e : i = s.length := by omega
    subst e
    rw [drop_nil (Nat.le_refl _)] at ht
    simp -implicitDefEqProofs [← ht, textOk_nil]
theorem c_l04Hex4 (n : Nat) (hn : n < 65536) (K) : Ct Tryz.prog 276 [.int .i64 n] K (.str [hexD (n / 4096 % 16), hexD (n / 256 % 16), hexD (n / 16 % 16), hexD (n % 16)]) K := by
  have e1 : ((n : Int) / 4096) = (n / 4096 : Nat) := by omega
  have e2 : ((n : Int) / 256) = (n / 256 : Nat) := by omega
  have e3 : ((n : Int) / 16) = (n / 16 : Nat) := by omega
  have w1 : IntKind.i64.wrap ((n / 4096 : Nat) : Int) = (n / 4096 : Nat) := wrap64 (by omega) (by omega)
  have w2 : IntKind.i64.wrap ((n / 256 : Nat) : Int) = (n / 256 : Nat) := wrap64 (by omega) (by omega)
  have w3 : IntKind.i64.wrap ((n / 16 : Nat) : Int) = (n / 16 : Nat) := wrap64 (by omega) (by omega)
  have m1 : ((n / 4096 : Nat) : Int).tmod 16 = (n / 4096 % 16 : Nat) := rfl
  have m2 : ((n / 256 : Nat) : Int).tmod 16 = (n / 256 % 16 : Nat) := rfl
  have m3 : ((n / 16 : Nat) : Int).tmod 16 = (n / 16 % 16 : Nat) := rfl
  have m4 : (n : Int).tmod 16 = (n % 16 : Nat) := rfl
  have e4 : ((n : Int) % 16).toNat = n % 16 := by omega
  have g1 := hexS_get (k := n / 4096 % 16) (by omega)
  have g2 := hexS_get (k := n / 256 % 16) (by omega)
  have g3 := hexS_get (k := n / 16 % 16) (by omega)
  have g4 := hexS_get (k := n % 16) (by omega)
  unfold hexS at g1 g2 g3 g4
  refine ct_fn { n0 := 4, ex := [], tk := [23] } Tryz.func276 rfl (by kernel_rfl) (by kernel_rfl) rfl ?_
  simp -implicitDefEqProofs [Tryz.f276]
  refine wRun_draw true rfl (by decide +kernel) ?_
  simp -implicitDefEqProofs
  rw [e1, e2, e3, w1, w2, w3, m1, m2, m3]
  try rw [m4]
  refine ⟨by omega, by omega, by omega, by omega, by unfold maxLen; omega, ?_⟩
  simp only [Int.toNat_natCast, e4]
  exact ⟨g1.symm, g2.symm, g3.symm, g4.symm⟩
theorem c_Escaped (s : Bs) (K) : Ct Tryz.prog 249 [.str s] K (.str (escaped s)) K := by
  generalize hr : escaped s = r
  unfold escaped at hr
  refine ct_fn { n0 := 7, ex := [17, 18], tk := [8, 15, 25, 26, 28, 29, 33, 36, 37, 45, 52, 53, 55, 56, 57] } Tryz.func249 rfl (by kernel_rfl) (by kernel_rfl) rfl ?_
  simp -implicitDefEqProofs [Tryz.f249]
  refine callK_of (c_TextOk s _) ?_
  simp -implicitDefEqProofs
  intro hml
  refine ⟨fun h => ?_, fun h2 h3 _ => ?_⟩
  · rw [if_pos (by rcases h with h | h; exact .inl h; exact .inr (by omega))] at hr; subst hr; rfl
  · rw [if_neg (by simp [h2]; omega)] at hr
    obtain ⟨I, hI⟩ : ∃ I : Nat → St → Prop, ∀ m st, I m st ↔ ∃ i, i ≤ s.length ∧ m = s.length - i ∧
      st = { env := [(0, .str s), (2, .str []), (3, .sl (.of 5) ((escB (s.take i)).length + 1) (.int .u8 34 :: encB (escB (s.take i)))), (17, .int .i64 s.length), (18, .int .i64 i)], loc := [], K := [] :: K } := ⟨_, fun _ _ => Iff.rfl⟩
    refine wC_loopI I s.length ((hI _ _).2 ⟨0, by omega, rfl, rfl⟩) (St.le_of (by simp) (by simp [escB]) rfl (by simp)) ?_
    intro m st hst
    obtain ⟨i, hi, rfl, rfl⟩ := (hI _ _).1 hst
    have hEl := escB_len (s.take i)
    rw [List.length_take, Nat.min_eq_left hi] at hEl
    rcases Nat.lt_or_ge i s.length with hlt | hge
    · obtain ⟨b, hx⟩ : ∃ b, s[i]? = some b := ⟨_, List.getElem?_eq_getElem hlt⟩
      have hxe : s[i]'hlt = b := (List.getElem?_eq_some_iff.1 hx).2
      have htk := escB_take hx
      obtain ⟨he1, he2⟩ := esc_at b
      have hb := b.toNat_lt
      have w1 : IntKind.i64.wrap ((i : Int) + 1) = (i + 1 : Nat) := by rw [wrap64 (by omega) (by omega)]; rfl
      have ei := c_IndexByte escIn b.toNat hb
      rw [UInt8.ofNat_toNat] at ei
      generalize Lib.indexByte escIn b = k at *
      generalize escB (s.take i) = E at *
      unfold escIn at ei
      simp -implicitDefEqProofs [hlt, hxe, hx, w1]
      refine callK_of (ei _) ?_
      simp -implicitDefEqProofs [w1]
      refine ⟨fun h => ?_, fun h => ⟨fun h4 => ?_, fun h4 h5 => ?_⟩⟩
      · obtain ⟨h6, h7⟩ := he1 h
        refine ⟨⟨h, h6⟩, by unfold maxLen; omega, by omega, ?_⟩
        exact ⟨s.length - (i + 1), by omega, _, St.le_of (by simp) (by simp [St.trunc, look, mapV, mapC, killP, htk, h7, escOut]) rfl (by simp [St.trunc, mapC]), (hI _ _).2 ⟨i + 1, by omega, rfl, rfl⟩⟩
      · rw [if_pos (by omega)] at he2
        refine wRun_draw true rfl (by decide +kernel) ?_
        simp -implicitDefEqProofs [w1]
        rw [shr4, and15]
        have q1 : ((b.toNat : Int) / 16).toNat = b.toNat / 16 := by omega
        have q2 : ((b.toNat : Int) % 16).toNat = b.toNat % 16 := by omega
        refine ⟨⟨by omega, by omega⟩, ⟨by omega, by omega⟩, by unfold maxLen; omega, by omega, ?_⟩
        exact ⟨s.length - (i + 1), by omega, _, St.le_of (by simp) (by simp [St.trunc, look, mapV, mapC, killP, htk, he2 h, hexS, q1, q2]) rfl (by simp [St.trunc, mapC]), (hI _ _).2 ⟨i + 1, by omega, rfl, rfl⟩⟩
      · rw [if_neg (by omega)] at he2
        refine ⟨by unfold maxLen; omega, by omega, ?_⟩
        exact ⟨s.length - (i + 1), by omega, _, St.le_of (by simp) (by simp [St.trunc, look, mapV, mapC, killP, htk, he2 h]) rfl (by simp [St.trunc, mapC]), (hI _ _).2 ⟨i + 1, by omega, rfl, rfl⟩⟩
    · have e : i = s.length := by omega
      subst e
      rw [List.take_of_length_le (Nat.le_refl _)] at *
      simp -implicitDefEqProofs [bytesOf]
      refine ⟨by unfold maxLen; omega, by omega, by unfold maxLen; omega, hr.symm⟩
end Go.Proofs.YtkefgpmnimpcdaaGreatDoor.Abs
