/- Texts that are UTF-8; escapes: both sides' functions as contracts. No condition. -/
import Derived.Test.YthagllbnkbahnaaDoorTxA
set_option linter.unusedVariables false
set_option linter.unusedSimpArgs false
namespace Go.Proofs.YthagllbnkbahnaaDoor.Abs
open Go
set_option maxHeartbeats 1000000
set_option maxRecDepth 100000
theorem c_TextOk (s : Bs) (K) : Ct Tryd.prog 56 [.str s] K (.bool (textOk s)) K := by
  refine ct_fn { n0 := 3, ex := [], tk := [4] } Tryd.func56 rfl (by kernel_rfl) (by kernel_rfl) rfl ?_
  simp -implicitDefEqProofs [Tryd.f56]
  refine callK_of (c_ValidString s _) ?_
  simp -implicitDefEqProofs
  rfl
theorem c_Escaped (s : Bs) (K) : Ct Tryd.prog 46 [.str s] K (.str (escaped s)) K := by
  generalize hr : escaped s = r
  unfold escaped at hr
  refine ct_fn { n0 := 7, ex := [17, 18], tk := [8, 15, 25, 26, 28, 29, 33, 36, 37, 45, 52, 53, 55, 56, 57] } Tryd.func46 rfl (by kernel_rfl) (by kernel_rfl) rfl ?_
  simp -implicitDefEqProofs [Tryd.f46]
  refine callK_of (c_TextOk s _) ?_
  simp -implicitDefEqProofs
  intro hml
  refine ⟨fun h => ?_, fun h2 h3 _ => ?_⟩
  · rw [if_pos (by rcases h with h | h; exact .inl h; exact .inr (by omega))] at hr; subst hr; rfl
  · rw [if_neg (by simp [h2]; omega)] at hr
    obtain ⟨I, hI⟩ : ∃ I : Nat → St → Prop, ∀ m st, I m st ↔ ∃ i, i ≤ s.length ∧ m = s.length - i ∧
      st = { env := [(0, .str s), (2, .str []), (3, .sl (.of 5) ((escB (s.take i)).length + 1) (.int .u8 34 :: encB (escB (s.take i)))), (17, .int .i64 s.length), (18, .int .i64 i)], loc := [], K := [] :: K } := ⟨_, fun _ _ => Iff.rfl⟩
    refine wC_loopI I s.length ((hI _ _).2 ⟨0, by omega, rfl, rfl⟩) (St.le_of (by simp) (by simp [escB]) rfl (by simp)) ?_
    intro m st hst
    obtain ⟨i, hi, rfl, rfl⟩ := (hI _ _).1 hst
    have hEl := escB_len (s.take i)
    rw [List.length_take, Nat.min_eq_left hi] at hEl
    rcases Nat.lt_or_ge i s.length with hlt | hge
    · obtain ⟨b, hx⟩ : ∃ b, s[i]? = some b := ⟨_, List.getElem?_eq_getElem hlt⟩
      have hxe : s[i]'hlt = b := (List.getElem?_eq_some_iff.1 hx).2
      have htk := escB_take hx
      obtain ⟨he1, he2⟩ := esc_at b
      have hb := b.toNat_lt
      have w1 : IntKind.i64.wrap ((i : Int) + 1) = (i + 1 : Nat) := by rw [wrap64 (by omega) (by omega)]; rfl
      have ei := c_IndexByte escIn b.toNat hb
      rw [UInt8.ofNat_toNat] at ei
      generalize Lib.indexByte escIn b = k at *
      generalize escB (s.take i) = E at *
      unfold escIn at ei
      simp -implicitDefEqProofs [hlt, hxe, hx, w1]
      refine callK_of (ei _) ?_
      simp -implicitDefEqProofs [w1]
      refine ⟨fun h => ?_, fun h => ⟨fun h4 => ?_, fun h4 h5 => ?_⟩⟩
      · obtain ⟨h6, h7⟩ := he1 h
        refine ⟨⟨h, h6⟩, by unfold maxLen; omega, by omega, ?_⟩
        exact ⟨s.length - (i + 1), by omega, _, St.le_of (by simp) (by simp [St.trunc, look, mapV, mapC, killP, htk, h7, escOut]) rfl (by simp [St.trunc, mapC]), (hI _ _).2 ⟨i + 1, by omega, rfl, rfl⟩⟩
      · rw [if_pos (by omega)] at he2
        refine wRun_draw true rfl (by decide +kernel) ?_
        simp -implicitDefEqProofs [w1]
        rw [shr4, and15]
        have q1 : ((b.toNat : Int) / 16).toNat = b.toNat / 16 := by omega
        have q2 : ((b.toNat : Int) % 16).toNat = b.toNat % 16 := by omega
        refine ⟨⟨by omega, by omega⟩, ⟨by omega, by omega⟩, by unfold maxLen; omega, by omega, ?_⟩
        exact ⟨s.length - (i + 1), by omega, _, St.le_of (by simp) (by simp [St.trunc, look, mapV, mapC, killP, htk, he2 h, hexS, q1, q2]) rfl (by simp [St.trunc, mapC]), (hI _ _).2 ⟨i + 1, by omega, rfl, rfl⟩⟩
      · rw [if_neg (by omega)] at he2
        refine ⟨by unfold maxLen; omega, by omega, ?_⟩
        exact ⟨s.length - (i + 1), by omega, _, St.le_of (by simp) (by simp [St.trunc, look, mapV, mapC, killP, htk, he2 h]) rfl (by simp [St.trunc, mapC]), (hI _ _).2 ⟨i + 1, by omega, rfl, rfl⟩⟩
    · have e : i = s.length := by omega
      subst e
      rw [List.take_of_length_le (Nat.le_refl _)] at *
      simp -implicitDefEqProofs [bytesOf]
      refine ⟨by unfold maxLen; omega, by omega, by unfold maxLen; omega, hr.symm⟩
end Go.Proofs.YthagllbnkbahnaaDoor.Abs
