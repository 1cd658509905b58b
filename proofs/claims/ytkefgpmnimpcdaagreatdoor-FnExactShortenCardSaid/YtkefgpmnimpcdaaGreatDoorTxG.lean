/- Escapes: the reference's functions as contracts. No condition. -/
import Derived.Test.YtkefgpmnimpcdaaGreatDoorTxE
set_option linter.unusedVariables false
set_option linter.unusedSimpArgs false
namespace Go.Proofs.YtkefgpmnimpcdaaGreatDoor.Abs
open Go
set_option maxHeartbeats 2000000
set_option maxRecDepth 100000
theorem c_l04Digit (b : UInt8) (K) : Ct Tryz.prog 260 [.int .u8 b.toNat] K (.int .i64 (hexV b)) K := by
  have hb := b.toNat_lt
  generalize hr : hexV b = r
  unfold hexV at hr
  have w0 : IntKind.i64.wrap (b.toNat : Int) = b.toNat := wrap64 (by omega) (by omega)
  have w1 : IntKind.i64.wrap ((b.toNat : Int) - 48) = b.toNat - 48 := wrap64 (by omega) (by omega)
  have w2 : IntKind.i64.wrap ((b.toNat : Int) - 87) = b.toNat - 87 := wrap64 (by omega) (by omega)
  have w3 : IntKind.i64.wrap ((b.toNat : Int) - 55) = b.toNat - 55 := wrap64 (by omega) (by omega)
  refine ct_fn { n0 := 3, ex := [], tk := [] } Tryz.func260 rfl (by kernel_rfl) (by kernel_rfl) rfl ?_
  simp -implicitDefEqProofs [Tryz.f260, w0, w1, w2, w3]
  rw [← hr]
  refine ⟨fun h1 h2 => ?_, fun h => ⟨fun h1 h2 => ?_, fun h' => ⟨fun h1 h2 => ?_, fun h'' => ?_⟩⟩⟩
  · rw [if_pos (by omega)]
  · rw [if_neg (by omega), if_pos (by omega)]
  · rw [if_neg (by omega), if_neg (by omega), if_pos (by omega)]
  · rw [if_neg (by omega), if_neg (by omega), if_neg (by omega)]
theorem c_l04Num (s : Bs) (i e : Nat) (hs : s.length ≤ 1000000000) (hi : i ≤ 1000000000) (h1 : i ≤ e) (h2 : e ≤ i + 10) (K) : Ct Tryz.prog 261 [.str s, .int .i64 i, .int .i64 e] K (.int .i64 (numS (s.drop i) (e - i))) K := by
  generalize hr : numS (s.drop i) (e - i) = r
  unfold numS at hr
  rw [List.length_drop] at hr
  refine ct_fn { n0 := 9, ex := [], tk := [23, 31, 33] } Tryz.func261 rfl (by kernel_rfl) (by kernel_rfl) rfl ?_
  simp -implicitDefEqProofs [Tryz.f261]
  obtain ⟨I, hI⟩ : ∃ I : Nat → St → Prop, ∀ m st, I m st ↔ ∃ (p : Nat) (n : Int), i ≤ p ∧ p ≤ e ∧ (p ≤ s.length ∨ p = i) ∧ m = e - p ∧ (if s.length - i < e - i then (-1 : Int) else (hexN (((s.drop i).take (e - i)).drop (p - i)) n).getD (-1)) = r ∧ 0 ≤ n ∧ n < ((16 ^ (p - i) : Nat) : Int) ∧
    st = { env := [(0, .str s), (1, .int .i64 i), (2, .int .i64 e), (6, .int .i64 0), (7, .int .i64 n), (8, .int .i64 p)], loc := [], K := [] :: K } := ⟨_, fun _ _ => Iff.rfl⟩
  refine wC_loopI I (e - i) ((hI _ _).2 ⟨i, 0, by omega, by omega, .inr rfl, rfl, by simpa using hr, by omega, by simp, rfl⟩) (St.le_of (by simp) (by simp) rfl (by simp)) ?_
  intro m st hst
  obtain ⟨p, n, hip, hpe, hps, rfl, hn, hn0, hn1, rfl⟩ := (hI _ _).1 hst
  rcases Nat.lt_or_ge p e with hlt | hge
  · rcases Nat.lt_or_ge p s.length with hl | hl
    · obtain ⟨b, hx⟩ : ∃ b, s[p]? = some b := ⟨_, List.getElem?_eq_getElem hl⟩
      have hxe : s[p]'hl = b := (List.getElem?_eq_some_iff.1 hx).2
      have hx2 : ((s.drop i).take (e - i))[p - i]? = some b := by rw [List.getElem?_take, if_pos (by omega), List.getElem?_drop, ← hx]; congr 1; omega
      have hv := hexV_lt b
      have hp : 16 ^ (p - i) ≤ 16 ^ 10 := Nat.pow_le_pow_right (by decide) (by omega)
      have hp2 : 16 ^ (p + 1 - i) = 16 ^ (p - i) * 16 := by rw [show p + 1 - i = (p - i) + 1 by omega]; exact Nat.pow_succ _ _
      have w1 : IntKind.i64.wrap ((p : Int) + 1) = (p + 1 : Nat) := by rw [wrap64 (by omega) (by omega)]; omega
      rw [drop_cons hx2] at hn
      simp only [hexN] at hn
      simp -implicitDefEqProofs [hlt, hl, hx, hxe, w1]
      refine fun _ => callK_still (fun _ => c_l04Digit b _) ?_
      simp -implicitDefEqProofs [hlt, hl, hx, hxe, w1]
      refine ⟨fun h => ?_, fun h => ?_⟩
      · by_cases hc : s.length - i < e - i
        · rw [if_pos hc] at hn; exact hn.symm
        · rw [if_neg hc, if_pos (show hexV b < 0 by omega)] at hn; exact hn.symm
      · rw [if_neg (show ¬ hexV b < 0 by omega)] at hn
        refine callK_of (c_l04Digit b _) ?_
        have w2 : IntKind.i64.wrap (IntKind.i64.wrap (n * 16) + hexV b) = 16 * n + hexV b := by
          rw [wrap64 (n := n * 16) (by omega) (by omega), wrap64 (by omega) (by omega)]; omega
        simp -implicitDefEqProofs [w1, w2]
        exact ⟨e - (p + 1), by omega, _, St.le_of (by simp) (by simp [St.trunc, look, mapV, mapC, killP]) rfl (by simp [St.trunc, mapC]), (hI _ _).2 ⟨p + 1, 16 * n + hexV b, by omega, by omega, .inl (by omega), rfl, by rw [show p + 1 - i = p - i + 1 by omega]; exact hn, by omega, by omega, rfl⟩⟩
    · rw [if_pos (by omega)] at hn
      have hl2 : ¬ p < s.length := by omega
      simp -implicitDefEqProofs [hlt, hl, hl2]
      refine fun _ => callK_still (r := .int .i64 0) (fun h => absurd h (by simp)) ?_
      simp -implicitDefEqProofs [hn]
  · have e1 : p = e := by omega
    subst e1
    have hnl : ¬ s.length - i < p - i := by omega
    rw [if_neg hnl, List.drop_of_length_le (by rw [List.length_take]; omega)] at hn
    simp only [hexN, Option.getD_some] at hn
    simp -implicitDefEqProofs [hn]

end Go.Proofs.YtkefgpmnimpcdaaGreatDoor.Abs
