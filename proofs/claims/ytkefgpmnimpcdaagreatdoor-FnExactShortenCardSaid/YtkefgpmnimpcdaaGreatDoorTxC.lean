/- Escapes (the reference's), figures, numbers: contracts. No condition. -/
import Derived.Test.YtkefgpmnimpcdaaGreatDoorTxB
set_option linter.unusedVariables false
set_option linter.unusedSimpArgs false
namespace Go.Proofs.YtkefgpmnimpcdaaGreatDoor.Abs
open Go
set_option maxHeartbeats 1000000
set_option maxRecDepth 100000
theorem c_EscapedS (s : Bs) (hs : s.length ≤ 1000000000) (K) : Ct Tryz.prog 245 [.str s] K (.str (escaped s)) K := by
  generalize hr : escaped s = r
  unfold escaped at hr
  refine ct_fn { n0 := 6, ex := [], tk := [7, 81] } Tryz.func245 rfl (by kernel_rfl) (by kernel_rfl) rfl ?_
  simp -implicitDefEqProofs [Tryz.f245]
  refine callK_of (c_TextOkS s _ hs) ?_
  simp -implicitDefEqProofs
  intro hml
  refine ⟨fun h => ?_, fun h2 h3 => ?_⟩
  · rw [if_pos (by rcases h with h | h; exact .inl h; exact .inr (by omega))] at hr; subst hr; rfl
  · rw [if_neg (by simp [h2]; omega)] at hr
    obtain ⟨I, hI⟩ : ∃ I : Nat → St → Prop, ∀ m st, I m st ↔ ∃ i, i ≤ s.length ∧ m = s.length - i ∧
      st = { env := [(0, .str s), (2, .str []), (3, .str (34 :: escB (s.take i))), (4, .int .i64 i)], loc := [], K := [] :: K } := ⟨_, fun _ _ => Iff.rfl⟩
    refine wC_loopI I s.length ((hI _ _).2 ⟨0, by omega, rfl, rfl⟩) (St.le_of (by simp) (by simp [escB]) rfl (by simp)) ?_
    intro m st hst
    obtain ⟨i, hi, rfl, rfl⟩ := (hI _ _).1 hst
    have hEl := escB_len (s.take i)
    rw [List.length_take, Nat.min_eq_left hi] at hEl
    rcases Nat.lt_or_ge i s.length with hlt | hge
    · obtain ⟨b, hx⟩ : ∃ b, s[i]? = some b := ⟨_, List.getElem?_eq_getElem hlt⟩
      have hxe : s[i]'hlt = b := (List.getElem?_eq_some_iff.1 hx).2
      have htk := escB_take hx
      have hb := b.toNat_lt
      have w1 : IntKind.i64.wrap ((i : Int) + 1) = (i : Int) + 1 := wrap64 (by omega) (by omega)
      have q1 : ((i : Int) + 1).toNat = i + 1 := by omega
      have sl1 : (s.take (i + 1)).drop i = [b] := by rw [List.take_add_one, hx, List.drop_append_of_le_length (by rw [List.length_take]; omega), List.drop_of_length_le (by rw [List.length_take]; omega)]; simp
      obtain ⟨k1, k2, k3, k4, k5, k6, k7⟩ := esc1_cases b
      have wc : IntKind.i64.wrap (b.toNat : Int) = b.toNat := wrap64 (by omega) (by omega)
      generalize escB (s.take i) = E at *
      have next : ∀ (T : Bs) (l : List (Nat × AC)), esc1 b = T → roundK I (s.length - i) 0 { env := [(0, .str s), (2, .str []), (3, .str (34 :: (E ++ T))), (4, .int .i64 ((i : Int) + 1)), (5, .int .u8 b.toNat)], loc := l, K := [] :: K } := fun T l hT =>
        ⟨s.length - (i + 1), by omega, _, St.le_of (by simp) (by simp [St.trunc, look, mapV, mapC, killP, htk, hT]) rfl (by simp [St.trunc, mapC]), (hI _ _).2 ⟨i + 1, by omega, rfl, rfl⟩⟩
      have hmx : E.length + 1 + 6 ≤ maxLen := by unfold maxLen; omega
      simp -implicitDefEqProofs [hlt, hxe, hx, w1, q1, sl1, wc]
      intro _
      refine ⟨fun h => ⟨by omega, ⟨by omega, by omega⟩, by omega, next _ _ (k1 (by omega))⟩, fun a1 a2 => ⟨fun h => ⟨by omega, next _ _ (k2 (by omega))⟩, fun a3 => ⟨fun h => ⟨by omega, next _ _ (k3 (by omega))⟩, fun a4 => ⟨fun h => ⟨by omega, next _ _ (k4 (by omega))⟩,
        fun a5 => ⟨fun h => ⟨by omega, next _ _ (k5 (by omega))⟩, fun a6 => ⟨fun h => ⟨by omega, next _ _ (k6 (by omega))⟩, fun a7 => ⟨fun h => ⟨by omega, ?_⟩, fun h h' => ?_⟩⟩⟩⟩⟩⟩⟩
      · refine callK_of (c_l04Hex4 b.toNat (by omega) _) ?_
        simp -implicitDefEqProofs [w1]
        exact ⟨by omega, next _ _ ((k7 (by omega) (by omega) (by omega) (by omega) (by omega) (by omega) (by omega)).1 (by omega))⟩
      · exact ⟨⟨by omega, by omega⟩, by omega, next _ _ ((k7 (by omega) (by omega) (by omega) (by omega) (by omega) (by omega) (by omega)).2 (by omega))⟩
    · have e : i = s.length := by omega
      subst e
      rw [List.take_of_length_le (Nat.le_refl _)] at *
      simp -implicitDefEqProofs
      exact fun _ => ⟨by unfold maxLen; omega, hr.symm⟩
end Go.Proofs.YtkefgpmnimpcdaaGreatDoor.Abs
