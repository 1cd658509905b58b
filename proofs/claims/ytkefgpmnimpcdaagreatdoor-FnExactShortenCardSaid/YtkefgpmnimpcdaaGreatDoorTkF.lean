/- Signs, names, blanks and numbers: the reference. No condition. -/
import Derived.Test.YtkefgpmnimpcdaaGreatDoorTkP
import Derived.Test.YtkefgpmnimpcdaaGreatDoorTxS
import Derived.Shelf.Unicode.DecodeAny
import Derived.Test.YtkefgpmnimpcdaaGreatDoorTxIdx
set_option linter.unusedVariables false
set_option linter.unusedSimpArgs false
namespace Go.Proofs.YtkefgpmnimpcdaaGreatDoor.Abs
open Go
set_option maxHeartbeats 2000000
set_option maxRecDepth 100000
theorem signOk_iff (l : Bs) : signOk l = true ↔ l = [33] ∨ l = [36] ∨ l = [38] ∨ l = [40] ∨ l = [41] ∨ l = [46, 46, 46] ∨ l = [58] ∨ l = [61] ∨ l = [64] ∨ l = [91] ∨ l = [93] ∨ l = [123] ∨ l = [124] ∨ l = [125] := by
  unfold signOk
  match l with
  | [] => decide
  | [b] => simp [signB]
  | b :: c :: r => simp
theorem c_SignOkS (s : Bs) (K) : Ct Tryz.prog 145 [.str s] K (.bool (signOk s)) K := by
  have hi := signOk_iff s
  generalize signOk s = R at hi
  refine ct_fn { n0 := 3, ex := [3, 4], tk := [] } Tryz.func145 rfl (by kernel_rfl) (by kernel_rfl) rfl ?_
  simp -implicitDefEqProofs [Tryz.f145]
  cases R with
  | true =>
    have h := hi.1 rfl
    rcases h with h | h | h | h | h | h | h | h | h | h | h | h | h | h <;> subst h <;> simp -implicitDefEqProofs
  | false =>
    have h : ¬ (_ ∨ _) := fun h => absurd (hi.2 h) (by simp)
    simp only [not_or] at h
    obtain ⟨h1, h2, h3, h4, h5, h6, h7, h8, h9, h10, h11, h12, h13, h14⟩ := h
    simp -implicitDefEqProofs [h1, h2, h3, h4, h5, h6, h7, h8, h9, h10, h11, h12, h13, h14]
theorem c_NameOkS (s : Bs) (hs : s.length ≤ 1000000000) (K) : Ct Tryz.prog 135 [.str s] K (.bool (nameOk s)) K := by
  generalize hR : nameOk s = R
  unfold nameOk at hR
  refine ct_fn { n0 := 4, ex := [], tk := [15, 26, 32] } Tryz.func135 rfl (by kernel_rfl) (by kernel_rfl) rfl ?_
  simp -implicitDefEqProofs [Tryz.f135]
  cases s with
  | nil =>
    simp -implicitDefEqProofs
    simp at hR
    refine callK_still (r := .bool false) (fun h => absurd h (by simp)) ?_
    simp -implicitDefEqProofs
    first | exact hR | exact hR.symm
  | cons b r =>
    generalize hS : b :: r = s at *
    have hne : s ≠ [] := by rw [← hS]; simp
    have hpos : 0 < s.length := by rw [← hS]; simp
    have hx : s[0]? = some b := by rw [← hS]; rfl
    have hxe : s[0]'hpos = b := (List.getElem?_eq_some_iff.1 hx).2
    have hg : s.getD 0 0 = b := by rw [List.getD_eq_getElem?_getD, hx]; rfl
    rw [hg] at hR
    have h0 : ¬ s.length = 0 := by omega
    by_cases h30 : s.length ≤ 30
    · have h31 : ¬ (30 : Int) < s.length := by omega
      have h32 : ¬ 30 < s.length := by omega
      simp -implicitDefEqProofs [hne, h0, h31, h32, hpos, hx, hxe]
      intro _
      refine callK_still (fun _ => c_l03Figure b _) ?_
      rw [decide_eq_true hpos, decide_eq_true h30] at hR
      cases hf : isFig b with
      | true =>
        rw [hf] at hR
        simp -implicitDefEqProofs
        simpa using hR
      | false =>
        rw [hf] at hR
        have hR : s.all isNm = R := by simpa using hR
        simp -implicitDefEqProofs
        obtain ⟨I, hI⟩ : ∃ I : Nat → St → Prop, ∀ m st, I m st ↔ ∃ i, i ≤ s.length ∧ m = s.length - i ∧ (s.drop i).all isNm = R ∧
          st = { env := [(0, .str s), (2, .bool false), (3, .int .i64 i)], loc := [], K := [] :: K } := ⟨_, fun _ _ => Iff.rfl⟩
        refine wC_loopI I s.length ((hI _ _).2 ⟨0, by omega, rfl, by simpa using hR, rfl⟩) (St.le_of (by simp) (by simp) rfl (by simp)) ?_
        intro m st hst
        obtain ⟨i, hi, rfl, hp, rfl⟩ := (hI _ _).1 hst
        clear hst
        rcases Nat.lt_or_ge i s.length with hlt | hge
        · obtain ⟨c, hy⟩ : ∃ c, s[i]? = some c := ⟨_, List.getElem?_eq_getElem hlt⟩
          have hye : s[i]'hlt = c := (List.getElem?_eq_some_iff.1 hy).2
          have w1 : IntKind.i64.wrap ((i : Int) + 1) = (i + 1 : Nat) := by rw [wrap64 (by omega) (by omega)]; rfl
          rw [drop_cons hy, List.all_cons] at hp
          simp -implicitDefEqProofs [hlt, hye, hy, w1]
          intro _
          refine callK_of (c_l03Letter c _) ?_
          simp -implicitDefEqProofs [hlt, hye, hy, w1]
          refine callK_still (fun _ => c_l03Figure c _) ?_
          have hn : isNm c = (isLet c || isUn c || isFig c) := rfl
          cases h1 : (isLet c || isUn c) with
          | true =>
            have h1' : isLet c = true ∨ isUn c = true := by simpa using h1
            rw [hn, h1] at hp
            simp -implicitDefEqProofs [h1', h1, w1]
            refine ⟨fun e1 e2 => absurd h1' (by simp [e1, e2]), fun _ => ?_⟩
            exact ⟨s.length - (i + 1), by omega, _, St.le_of (by simp) (by simp [St.trunc, look, mapV, mapC, killP]) rfl (by simp [St.trunc, mapC]), (hI _ _).2 ⟨i + 1, by omega, rfl, by simpa using hp, rfl⟩⟩
          | false =>
            have h1a : isLet c = false := by cases h : isLet c <;> simp [h] at h1 ⊢
            have h1b : isUn c = false := by cases h : isUn c <;> simp [h] at h1 ⊢
            rw [hn, h1] at hp
            cases h2 : isFig c with
            | true =>
              rw [h2] at hp
              simp -implicitDefEqProofs [h1a, h1b, h2, w1]
              exact ⟨s.length - (i + 1), by omega, _, St.le_of (by simp) (by simp [St.trunc, look, mapV, mapC, killP]) rfl (by simp [St.trunc, mapC]), (hI _ _).2 ⟨i + 1, by omega, rfl, by simpa using hp, rfl⟩⟩
            | false =>
              rw [h2] at hp
              simp -implicitDefEqProofs [h1a, h1b, h2]
              simpa using hp
        · have hn : ¬ i < s.length := by omega
          rw [drop_nil hge] at hp
          simp -implicitDefEqProofs [hn]
          exact fun _ => by simpa using hp
    · have h31 : (30 : Int) < s.length := by omega
      have h32 : 30 < s.length := by omega
      rw [decide_eq_false h30] at hR
      simp -implicitDefEqProofs [hne, h0, h31, h32, hpos, hx, hxe]
      intro _
      refine callK_still (r := .bool false) (fun h => absurd h (by simp)) ?_
      simp -implicitDefEqProofs
      simpa using hR
theorem c_l06Pass (s : Bs) (a : Nat) (hs : s.length ≤ 1000000000) (ha : a ≤ s.length) (K) : Ct Tryz.prog 50 [.str s, .int .i64 a] K (.int .i64 (skipP s a : Nat)) K := by
  generalize hR : skipP s a = R
  unfold skipP at hR
  refine ct_fn { n0 := 5, ex := [], tk := [9, 77] } Tryz.func50 rfl (by kernel_rfl) (by kernel_rfl) rfl ?_
  simp -implicitDefEqProofs [Tryz.f50]
  obtain ⟨I, hI⟩ : ∃ I : Nat → St → Prop, ∀ m st, I m st ↔ ∃ i n, i ≤ s.length ∧ m = s.length - i ∧ s.length - i ≤ n ∧ skipG (n + 1) s (if i = 0 ∧ bom s = true then 3 else i) = R ∧
    st = { env := [(0, .str s), (1, .int .i64 i), (4, .int .i64 0)], loc := [], K := [] :: K } := ⟨_, fun _ _ => Iff.rfl⟩
  refine wC_loopI I (s.length - a) ((hI _ _).2 ⟨a, s.length, ha, rfl, by omega, hR, rfl⟩) (St.le_of (by simp) (by simp) rfl (by simp)) ?_
  intro m st hst
  obtain ⟨i, n, hi, rfl, hn, hp, rfl⟩ := (hI _ _).1 hst
  clear hst
  rcases Nat.lt_or_ge i s.length with hlt | hge
  · obtain ⟨b, hx⟩ : ∃ b, s[i]? = some b := ⟨_, List.getElem?_eq_getElem hlt⟩
    have hxe : s[i]'hlt = b := (List.getElem?_eq_some_iff.1 hx).2
    have hg : s.getD i 0 = b := by rw [List.getD_eq_getElem?_getD, hx]; rfl
    have w1 : IntKind.i64.wrap ((i : Int) + 1) = (i + 1 : Nat) := by rw [wrap64 (by omega) (by omega)]; rfl
    have e32 : (b.toNat : Int) = 32 ↔ b = 32 := u8_eq (c := 32)
    have e9 : (b.toNat : Int) = 9 ↔ b = 9 := u8_eq (c := 9)
    have e10 : (b.toNat : Int) = 10 ↔ b = 10 := u8_eq (c := 10)
    have e13 : (b.toNat : Int) = 13 ↔ b = 13 := u8_eq (c := 13)
    have e44 : (b.toNat : Int) = 44 ↔ b = 44 := u8_eq (c := 44)
    have e35 : (b.toNat : Int) = 35 ↔ b = 35 := u8_eq (c := 35)
    have hnb : isSkip b = true → ¬ (i = 0 ∧ bom s = true) := by
      rintro h ⟨rfl, hb⟩
      rw [bom_0 hb] at hx
      cases hx
      exact absurd h (by decide)
    obtain ⟨n, rfl⟩ : ∃ n', n = n' + 1 := ⟨n - 1, by omega⟩
    by_cases hk : isSkip b = true
    · rw [if_neg (hnb hk), skipG, if_neg (by omega), hg, if_pos hk] at hp
      have hor : (((b = 32 ∨ b = 9) ∨ b = 10) ∨ b = 13) ∨ b = 44 := by
        unfold isSkip at hk
        simpa using hk
      simp -implicitDefEqProofs [hlt, hxe, hx, w1, e32, e9, e10, e13, e44, e35, hor]
      refine fun _ => ⟨⟨s.length - (i + 1), by omega, _, St.le_of (by simp) (by simp [St.trunc, look, mapV, mapC, killP]) rfl (by simp [St.trunc, mapC]), (hI _ _).2 ⟨i + 1, n, by omega, rfl, by omega, by rw [if_neg (by omega)]; exact hp, rfl⟩⟩, fun h1 h2 h3 h4 h5 => absurd hor (by simp [h1, h2, h3, h4, h5])⟩
    · have hk : isSkip b = false := by simpa using hk
      have hk2 := hk
      unfold isSkip at hk2
      simp only [Bool.or_eq_false_iff, decide_eq_false_iff_not] at hk2
      obtain ⟨⟨⟨⟨n32, n9⟩, n10⟩, n13⟩, n44⟩ := hk2
      by_cases hbm : i = 0 ∧ bom s = true
      · rw [if_pos hbm] at hp
        obtain ⟨rfl, hb⟩ := hbm
        have hl3 := bom_len hb
        have h3i : (3 : Int) ≤ s.length := by omega
        have ht : s.take 3 = [239, 187, 191] := (List.prefix_iff_eq_take.1 (List.isPrefixOf_iff_prefix.1 hb)).symm
        simp -implicitDefEqProofs [hlt, hxe, hx, w1, e32, e9, e10, e13, e44, e35, n32, n9, n10, n13, n44, hl3, h3i, ht]
        refine fun _ => ⟨s.length - 3, by omega, _, St.le_of (by simp) (by simp [St.trunc, look, mapV, mapC, killP]) rfl (by simp [St.trunc, mapC]), (hI _ _).2 ⟨3, n + 1, by omega, rfl, by omega, by rw [if_neg (by omega)]; exact hp, rfl⟩⟩
      · rw [if_neg hbm, skipG, if_neg (by omega), hg, hk, if_neg (by simp)] at hp
        have hnt : ¬ (i = 0 ∧ 3 ≤ (s.length : Int) ∧ s.take 3 = [239, 187, 191]) := fun ⟨h1, h2, h3⟩ => hbm ⟨h1, by
          unfold bom; rw [List.isPrefixOf_iff_prefix, List.prefix_iff_eq_take]; exact h3.symm⟩
        simp -implicitDefEqProofs [hlt, hxe, hx, w1, e32, e9, e10, e13, e44, e35, n32, n9, n10, n13, n44]
        refine fun _ _ => ⟨fun h1 h2 h3 => absurd ⟨h1, h2, h3⟩ hnt, fun _ => ⟨fun h35 => ?_, fun h35 => ?_⟩⟩
        · rw [if_pos h35] at hp
          have hpos : 0 < runW noNl (s.drop i) := by rw [drop_cons hx]; exact runW_pos (by rw [h35]; decide)
          obtain ⟨J, hJ⟩ : ∃ J : Nat → St → Prop, ∀ m st, J m st ↔ ∃ k, i ≤ k ∧ k ≤ s.length ∧ m = s.length - k ∧ k + runW noNl (s.drop k) = i + runW noNl (s.drop i) ∧
            st = { env := [(0, .str s), (1, .int .i64 k), (4, .int .i64 0)], loc := [], K := [] :: K } := ⟨_, fun _ _ => Iff.rfl⟩
          refine wC_loopI J (s.length - i) ((hJ _ _).2 ⟨i, Nat.le_refl _, by omega, rfl, rfl, rfl⟩) (St.le_of (by simp) (by simp) rfl (by simp)) ?_
          intro m st hst
          obtain ⟨k, hik, hkl, rfl, hrk, rfl⟩ := (hJ _ _).1 hst
          clear hst
          rcases Nat.lt_or_ge k s.length with hlt2 | hge2
          · obtain ⟨c, hy⟩ : ∃ c, s[k]? = some c := ⟨_, List.getElem?_eq_getElem hlt2⟩
            have hye : s[k]'hlt2 = c := (List.getElem?_eq_some_iff.1 hy).2
            have w2 : IntKind.i64.wrap ((k : Int) + 1) = (k + 1 : Nat) := by rw [wrap64 (by omega) (by omega)]; rfl
            have c10 : (c.toNat : Int) = 10 ↔ c = 10 := u8_eq (c := 10)
            have c13 : (c.toNat : Int) = 13 ↔ c = 13 := u8_eq (c := 13)
            rw [drop_cons hy, runW_cons] at hrk
            by_cases hc : noNl c = true
            · rw [if_pos hc] at hrk
              have hc2 := hc
              unfold noNl at hc2
              simp only [Bool.not_eq_true', Bool.or_eq_false_iff, decide_eq_false_iff_not] at hc2
              obtain ⟨g10, g13⟩ := hc2
              simp -implicitDefEqProofs [hlt2, hye, hy, w2, c10, c13, g10, g13]
              refine fun _ => ⟨s.length - (k + 1), by omega, _, St.le_of (by simp) (by simp [St.trunc, look, mapV, mapC, killP]) rfl (by simp [St.trunc, mapC]), (hJ _ _).2 ⟨k + 1, by omega, by omega, rfl, by omega, rfl⟩⟩
            · rw [if_neg hc] at hrk
              have hor : c = 10 ∨ c = 13 := by
                have : noNl c = false := by simpa using hc
                unfold noNl at this
                rcases Decidable.em (c = 10) with h | h
                · exact .inl h
                · exact .inr (by simpa [h] using this)
              have hne : ¬ (¬ c = 10 ∧ ¬ c = 13) := by rcases hor with h | h <;> simp [h]
              have hki : k = i + runW noNl (s.drop i) := by omega
              rw [← hki] at hp
              have hIk := (hI (s.length - k) _).2 ⟨k, n, by omega, rfl, by omega, by rw [if_neg (by omega)]; exact hp, rfl⟩
              rcases hor with h10 | h13
              · simp -implicitDefEqProofs [hlt2, hye, hy, w2, c10, c13, h10]
                exact fun _ => ⟨s.length - k, by omega, _, St.le_of (by simp) (by simp [St.trunc, look, mapV, mapC, killP]) rfl (by simp [St.trunc, mapC]), hIk⟩
              · simp -implicitDefEqProofs [hlt2, hye, hy, w2, c10, c13, h13]
                exact fun _ => ⟨s.length - k, by omega, _, St.le_of (by simp) (by simp [St.trunc, look, mapV, mapC, killP]) rfl (by simp [St.trunc, mapC]), hIk⟩
          · have hn3 : ¬ k < s.length := by omega
            have h0 : runW noNl [] = 0 := rfl
            rw [drop_nil hge2, h0] at hrk
            have hki : k = i + runW noNl (s.drop i) := by omega
            rw [← hki] at hp
            have hIk := (hI (s.length - k) _).2 ⟨k, n, by omega, rfl, by omega, by rw [if_neg (by omega)]; exact hp, rfl⟩
            simp -implicitDefEqProofs [hn3]
            exact fun _ => ⟨s.length - k, by omega, _, St.le_of (by simp) (by simp [St.trunc, look, mapV, mapC, killP]) rfl (by simp [St.trunc, mapC]), hIk⟩
        · rw [if_neg h35] at hp
          omega
  · have hn2 : ¬ i < s.length := by omega
    have h3 : (if i = 0 ∧ bom s = true then 3 else i) = i := by
      rw [if_neg]
      rintro ⟨rfl, hb⟩
      have := bom_len hb; omega
    rw [h3, skipG, if_pos hge] at hp
    simp -implicitDefEqProofs [hn2]
    omega
end Go.Proofs.YtkefgpmnimpcdaaGreatDoor.Abs
/- Runes and numbers: the program. No condition. -/
set_option linter.unusedVariables false
set_option linter.unusedSimpArgs false
namespace Go.Proofs.YtkefgpmnimpcdaaGreatDoor.Abs
open Go Go.RowKit
set_option maxHeartbeats 2000000
set_option maxRecDepth 100000
theorem c_Decode (s : Bs) (hne : s ≠ []) (K) : Ct Tryz.prog 147 [.str s] K (.tup [.int .i32 (Lib.decodeL s).1, .int .i64 (Lib.decodeL s).2]) K := by
  refine ct_lib ⟨_, Tryz.func147, rfl, by kernel_rfl⟩ rfl ?_ K
  intro w Pr vals ht h0
  obtain ⟨b, _, rfl, rfl, hl, h1⟩ := h0.str_inv
  obtain ⟨rfl, _⟩ := h1.nil_inv
  refine (Any.utf8_DecodeRuneInString Tryz.lays197 b w (utf8_tabs ht)).mono ?_
  rintro e w' ⟨rfl, hb⟩
  refine ⟨_, rfl, fun w Pr bl => ?_, hb⟩
  have e : Lib.decodeGo b = Lib.decodeL b.data.toList := by
    unfold Lib.decodeGo Lib.decodeL
    have hb0 : ¬ b.size = 0 := by
      intro e0
      rw [str_size] at e0
      exact hne (List.eq_nil_of_length_eq_zero e0)
    rw [if_neg hb0, Lib.mk_data]
  rw [e]
  exact .tup (Reps.cons (L := []) (M := []) .int (Reps.cons (L := []) (M := []) .int .nil))
theorem c_RuneAt (s : Bs) (i : Nat) (K) (hs : s.length ≤ 1000000000) (hi : i ≤ 1000000000) : Ct Tryz.prog 52 [.str s, .int .i64 i] K (.tup [.int .i64 (runeAt (s.drop i)).1, .int .i64 (runeAt (s.drop i)).2]) K := by
  have wl : IntKind.i64.wrap ((s.length : Int) - 1) = (s.length : Int) - 1 := wrap64 (by omega) (by omega)
  generalize hR : runeAt (s.drop i) = R
  unfold runeAt at hR
  refine ct_fn { n0 := 8, ex := [], tk := [12, 18, 29] } Tryz.func52 rfl (by kernel_rfl) (by kernel_rfl) rfl ?_
  simp -implicitDefEqProofs [Tryz.f52, wl]
  intro _
  refine callK_of (c_in _ _ _ _) ?_
  rcases Nat.lt_or_ge i s.length with hlt | hge
  · have hir : inR i 0 ((s.length : Int) - 1) = true := by unfold inR; simp; omega
    have hne : s.drop i ≠ [] := by intro e; have := congrArg List.length e; rw [List.length_drop] at this; simp at this; omega
    rw [if_neg hne] at hR
    simp -implicitDefEqProofs [hir]
    refine ⟨by omega, callK_of (c_Decode _ hne _) ?_⟩
    have hd1 := Lib.decodeL_width (s.drop i)
    have hd2 := Lib.decodeL_rune (s.drop i)
    generalize Lib.decodeL (s.drop i) = d at *
    have wd : IntKind.i64.wrap (d.1 : Int) = d.1 := wrap64 (by omega) (by omega)
    by_cases hb : d.1 = 65533 ∧ d.2 = 1
    · rw [if_pos hb] at hR
      subst hR
      obtain ⟨h1, h2⟩ := hb
      simp -implicitDefEqProofs [h1, h2]
    · rw [if_neg hb] at hR
      subst hR
      by_cases h1 : d.1 = 65533
      · have h2 : ¬ (d.2 : Int) < 2 := by omega
        have h3 : ¬ d.2 < 2 := by omega
        simp -implicitDefEqProofs [h1, h2, h3]
        rfl
      · have h4 : ¬ (d.1 : Int) = 65533 := by omega
        simp -implicitDefEqProofs [h1, h4, wd]
  · have hir : inR i 0 ((s.length : Int) - 1) = false := by unfold inR; simp; omega
    rw [if_pos (List.drop_eq_nil_of_le hge)] at hR
    subst hR
    simp -implicitDefEqProofs [hir]
end Go.Proofs.YtkefgpmnimpcdaaGreatDoor.Abs
/- Blanks and numbers: the program's skip and numberEnd, the reference's l06Number. No condition. -/
set_option linter.unusedVariables false
set_option linter.unusedSimpArgs false
namespace Go.Proofs.YtkefgpmnimpcdaaGreatDoor.Abs
open Go
set_option maxHeartbeats 4000000
set_option maxRecDepth 100000
theorem runW_full {p : UInt8 → Bool} : ∀ {l : Bs}, (∀ b ∈ l, p b = true) → runW p l = l.length := by
  intro l; induction l with
  | nil => intro _; rfl
  | cons b r ih => intro h; rw [runW_cons, if_pos (h b (by simp)), ih fun c hc => h c (by simp [hc])]; rfl
theorem runW_at {p : UInt8 → Bool} : ∀ {l : Bs} {i : Nat} {x : UInt8}, l[i]? = some x → p x = false → (∀ b ∈ l.take i, p b = true) → runW p l = i := by
  intro l; induction l with
  | nil => intro i x h; simp at h
  | cons b r ih =>
    intro i x h hx ha
    cases i with
    | zero =>
      simp at h; subst h
      rw [runW_cons, hx]; rfl
    | succ i =>
      rw [runW_cons, if_pos (ha b (by simp)), ih (by simpa using h) hx fun c hc => ha c (by simp [hc])]
theorem indexAny_run (l : Bs) : Lib.indexAny l [10, 13] = if runW noNl l < l.length then (runW noNl l : Int) else -1 := by
  have hb : ∀ b : UInt8, ([10, 13] : Bs).contains b = !noNl b := fun b => by
    unfold noNl; rw [Bool.not_not, Bool.eq_iff_iff]; simp
  rcases indexAny_cases l [10, 13] with ⟨h1, h2⟩ | ⟨i, x, h1, h2, h3, h4⟩
  · have hr := runW_full (p := noNl) (l := l) fun b hb' => by have := h2 b hb'; rw [hb] at this; simpa using this
    rw [h1, hr, if_neg (by omega)]
  · have hlt := (List.getElem?_eq_some_iff.1 h2).1
    have hr := runW_at (p := noNl) h2 (by rw [hb] at h3; simpa using h3) fun b hb' => by have := h4 b hb'; rw [hb] at this; simpa using this
    rw [h1, hr, if_pos hlt]
theorem ib_skip (b : UInt8) : Lib.indexByte [32, 9, 10, 13, 44] b < 0 ↔ isSkip b = false :=
  u8_all (p := fun b => Lib.indexByte [32, 9, 10, 13, 44] b < 0 ↔ isSkip b = false) (by decide +kernel) b
theorem ib_sign (b : UInt8) : 0 ≤ Lib.indexByte [33, 36, 38, 40, 41, 58, 61, 64, 91, 93, 123, 124, 125] b ↔ signB b = true :=
  u8_all (p := fun b => 0 ≤ Lib.indexByte [33, 36, 38, 40, 41, 58, 61, 64, 91, 93, 123, 124, 125] b ↔ signB b = true) (by decide +kernel) b
theorem skip35 : isSkip 35 = false := by decide
theorem c_skip (s : Bs) (a : Nat) (hs : s.length ≤ 1000000000) (ha : a ≤ s.length) (K) : Ct Tryz.prog 53 [.str s, .int .i64 a] K (.int .i64 (skipP s a : Nat)) K := by
  have hP := fun K => c_HasPrefix s [239, 187, 191] K
  generalize hR : skipP s a = R
  unfold skipP at hR
  refine ct_fn { n0 := 6, ex := [], tk := [10, 23, 34, 38] } Tryz.func53 rfl (by kernel_rfl) (by kernel_rfl) rfl ?_
  simp -implicitDefEqProofs [Tryz.f53]
  refine callK_still (fun _ => hP _) ?_
  rw [show ([239, 187, 191] : Bs).isPrefixOf s = bom s from rfl]
  have main : ∀ (i0 : Nat), i0 ≤ s.length → skipG (s.length + 1) s i0 = R → ∃ I : Nat → St → Prop, (∀ m st, I m st ↔ ∃ i n, i ≤ s.length ∧ m = s.length - i ∧ s.length - i ≤ n ∧ skipG (n + 1) s i = R ∧
      st = { env := [(0, .str s), (1, .int .i64 i), (4, .int .i64 0)], loc := [], K := [] :: K }) ∧ I (s.length - i0) { env := [(0, .str s), (1, .int .i64 i0), (4, .int .i64 0)], loc := [], K := [] :: K } :=
    fun i0 h1 h2 => ⟨_, fun _ _ => Iff.rfl, i0, s.length, h1, rfl, by omega, h2, rfl⟩
  obtain ⟨i0, hi0, hG0, hcase⟩ : ∃ i0, i0 ≤ s.length ∧ skipG (s.length + 1) s i0 = R ∧ ((a = 0 ∧ bom s = true ∧ i0 = 3) ∨ (¬ (a = 0 ∧ bom s = true) ∧ i0 = a)) := by
    by_cases hb : a = 0 ∧ bom s = true
    · exact ⟨3, bom_len hb.2, by rw [if_pos hb] at hR; exact hR, .inl ⟨hb.1, hb.2, rfl⟩⟩
    · exact ⟨a, ha, by rw [if_neg hb] at hR; exact hR, .inr ⟨hb, rfl⟩⟩
  obtain ⟨I, hI, hI0⟩ := main i0 hi0 hG0
  have hcs : (a = 0 ∧ bom s = true ∧ i0 = 3) ∨ (a = 0 ∧ bom s = false ∧ i0 = 0) ∨ (¬ a = 0 ∧ i0 = a) := by
    rcases hcase with h | ⟨h, rfl⟩
    · exact .inl h
    · by_cases h0 : i0 = 0
      · right; left; exact ⟨h0, by simpa [h0] using h, h0⟩
      · exact .inr (.inr ⟨h0, rfl⟩)
  clear hcase main hR hG0
  rcases hcs with ⟨rfl, hb, rfl⟩ | ⟨rfl, hb, rfl⟩ | ⟨hne, rfl⟩
  case' inl => simp -implicitDefEqProofs [hb]
  case' inr.inl => simp -implicitDefEqProofs [hb]
  case' inr.inr => simp -implicitDefEqProofs [hne]
  all_goals
    refine wC_loopI I _ hI0 (St.le_of (by simp) (by simp) rfl (by simp)) ?_
    clear hI0
    intro m st hst
    obtain ⟨i, n, hi, rfl, hn, hp, rfl⟩ := (hI _ _).1 hst
    clear hst
    rcases Nat.lt_or_ge i s.length with hlt | hge
    · obtain ⟨b, hx⟩ : ∃ b, s[i]? = some b := ⟨_, List.getElem?_eq_getElem hlt⟩
      have hxe : s[i]'hlt = b := (List.getElem?_eq_some_iff.1 hx).2
      have hg : s.getD i 0 = b := by rw [List.getD_eq_getElem?_getD, hx]; rfl
      have w1 : IntKind.i64.wrap ((i : Int) + 1) = (i + 1 : Nat) := by rw [wrap64 (by omega) (by omega)]; rfl
      have e35 : (b.toNat : Int) = 35 ↔ b = 35 := u8_eq (c := 35)
      obtain ⟨n, rfl⟩ : ∃ n', n = n' + 1 := ⟨n - 1, by omega⟩
      rw [skipG, if_neg (by omega), hg] at hp
      by_cases h35 : b = 35
      · subst h35
        rw [skip35, if_neg (by simp), if_pos rfl] at hp
        have hpos : 0 < runW noNl (s.drop i) := by rw [drop_cons hx]; exact runW_pos (by decide)
        have hrl := runW_le (p := noNl) (l := s.drop i)
        have hia := indexAny_run (s.drop i)
        have hdl : (s.drop i).length = s.length - i := List.length_drop
        have w2 : IntKind.i64.wrap ((i : Int) + runW noNl (s.drop i)) = (i + runW noNl (s.drop i) : Nat) := by rw [wrap64 (by omega) (by omega)]; rfl
        simp -implicitDefEqProofs [hlt, hxe, hx, w1]
        refine fun _ => ⟨by omega, callK_of (c_IndexAny2 _ 10 13 (by decide) (by decide) (by omega) _) ?_⟩
        rw [hia]
        by_cases hend : runW noNl (s.drop i) < (s.drop i).length
        · rw [if_pos hend]
          have h0 : ¬ ((runW noNl (s.drop i) : Nat) : Int) < 0 := by omega
          simp -implicitDefEqProofs [h0, w2]
          exact ⟨s.length - (i + runW noNl (s.drop i)), by omega, _, St.le_of (by simp) (by simp [St.trunc, look, mapV, mapC, killP]) rfl (by simp [St.trunc, mapC]), (hI _ _).2 ⟨i + runW noNl (s.drop i), n, by omega, rfl, by omega, hp, rfl⟩⟩
        · rw [if_neg hend]
          have hfin : skipG (n + 1) s (i + runW noNl (s.drop i)) = s.length := by
            rw [skipG, if_pos (by omega)]; omega
          rw [hfin] at hp
          simp -implicitDefEqProofs [w2]
          exact fun _ => by omega
      · simp -implicitDefEqProofs [hlt, hxe, hx, w1, e35, h35]
        refine fun _ => callK_of (c_IndexByte _ b.toNat (UInt8.toNat_lt b) _) ?_
        have hib := ib_skip b
        cases hk : isSkip b with
        | true =>
          have h0 : ¬ Lib.indexByte [32, 9, 10, 13, 44] b < 0 := fun h => by rw [hib.1 h] at hk; cases hk
          rw [hk, if_pos rfl] at hp
          simp -implicitDefEqProofs [h0, w1]
          exact ⟨s.length - (i + 1), by omega, _, St.le_of (by simp) (by simp [St.trunc, look, mapV, mapC, killP]) rfl (by simp [St.trunc, mapC]), (hI _ _).2 ⟨i + 1, n, by omega, rfl, by omega, hp, rfl⟩⟩
        | false =>
          have h0 : Lib.indexByte [32, 9, 10, 13, 44] b < 0 := hib.2 hk
          rw [hk, if_neg (by simp), if_neg h35] at hp
          simp -implicitDefEqProofs [h0]
          omega
    · have hn2 : ¬ i < s.length := by omega
      rw [skipG, if_pos hge] at hp
      simp -implicitDefEqProofs [hn2]
      omega
theorem c_l06Number (s : Bs) (a : Nat) (hs : s.length ≤ 1000000000) (ha : a < s.length) (K) : Ct Tryz.prog 137 [.str s, .int .i64 a] K (.int .i64 (numTE s a : Nat)) K := by
  have w1 : IntKind.i64.wrap ((a : Int) + 1) = (a + 1 : Nat) := by rw [wrap64 (by omega) (by omega)]; rfl
  generalize hR : numTE s a = R
  unfold numTE at hR
  refine ct_fn { n0 := 5, ex := [], tk := [15, 20, 57] } Tryz.func137 rfl (by kernel_rfl) (by kernel_rfl) rfl ?_
  simp -implicitDefEqProofs [Tryz.f137, w1]
  obtain ⟨I, hI⟩ : ∃ I : Nat → St → Prop, ∀ m st, I m st ↔ ∃ i j, i = j + 1 ∧ i ≤ s.length ∧ m = s.length - i ∧ i + numRun (s.getD j 0) (s.drop i) = R ∧
    st = { env := [(0, .str s), (1, .int .i64 i), (4, .int .i64 0)], loc := [], K := [] :: K } := ⟨_, fun _ _ => Iff.rfl⟩
  refine wC_loopI I (s.length - (a + 1)) ((hI _ _).2 ⟨a + 1, a, rfl, by omega, rfl, hR, rfl⟩) (St.le_of (by simp) (by simp) rfl (by simp)) ?_
  intro m st hst
  obtain ⟨i, j, hij, hi, rfl, hp, rfl⟩ := (hI _ _).1 hst
  clear hst
  rcases Nat.lt_or_ge i s.length with hlt | hge
  · obtain ⟨b, hx⟩ : ∃ b, s[i]? = some b := ⟨_, List.getElem?_eq_getElem hlt⟩
    have hxe : s[i]'hlt = b := (List.getElem?_eq_some_iff.1 hx).2
    have hltj : j < s.length := by omega
    obtain ⟨p, hy⟩ : ∃ b, s[j]? = some b := ⟨_, List.getElem?_eq_getElem hltj⟩
    have hye : s[j]'hltj = p := (List.getElem?_eq_some_iff.1 hy).2
    have hgj : s.getD j 0 = p := by rw [List.getD_eq_getElem?_getD, hy]; rfl
    have hgi : s.getD i 0 = b := by rw [List.getD_eq_getElem?_getD, hx]; rfl
    have w2 : IntKind.i64.wrap ((i : Int) + 1) = (i + 1 : Nat) := by rw [wrap64 (by omega) (by omega)]; rfl
    have w3 : IntKind.i64.wrap ((i : Int) - 1) = (j : Nat) := by rw [wrap64 (by omega) (by omega)]; omega
    have e46 : (b.toNat : Int) = 46 ↔ b = 46 := u8_eq (c := 46)
    have e43 : (b.toNat : Int) = 43 ↔ b = 43 := u8_eq (c := 43)
    have e45 : (b.toNat : Int) = 45 ↔ b = 45 := u8_eq (c := 45)
    have e101 : (p.toNat : Int) = 101 ↔ p = 101 := u8_eq (c := 101)
    have e69 : (p.toNat : Int) = 69 ↔ p = 69 := u8_eq (c := 69)
    rw [hgj, drop_cons hx, numRun] at hp
    simp -implicitDefEqProofs [hlt, hxe, hx, w2, w3]
    intro _
    refine callK_still (fun _ => c_l03Letter b _) ?_
    simp -implicitDefEqProofs [hlt, hxe, hx, w2, w3]
    refine callK_still (fun _ => c_l03Figure b _) ?_
    have hn : isNm b = (isLet b || isUn b || isFig b) := rfl
    simp -implicitDefEqProofs [hlt, hltj, hxe, hx, hy, hye, w2, w3, e46, e43, e45, e101, e69]
    refine ⟨fun h => ?_, fun h1 h2 h3 h4 h5 => ?_⟩
    · have hc : (isNm b || decide (b = 46) || ((decide (b = 43) || decide (b = 45)) && (decide (p = 101) || decide (p = 69)))) = true := by
        rw [hn]
        rcases h with (((h | h) | h) | h) | ⟨h | h, h' | h'⟩ <;> simp [h] <;> simp [h']
      rw [hc, if_pos rfl] at hp
      exact ⟨s.length - (i + 1), by omega, _, St.le_of (by simp) (by simp [St.trunc, look, mapV, mapC, killP]) rfl (by simp [St.trunc, mapC]), (hI _ _).2 ⟨i + 1, i, rfl, by omega, rfl, by rw [hgi]; omega, rfl⟩⟩
    · have hc : (isNm b || decide (b = 46) || ((decide (b = 43) || decide (b = 45)) && (decide (p = 101) || decide (p = 69)))) = false := by
        rw [hn, h1, h2, h3, decide_eq_false h4]
        rcases Decidable.em (b = 43 ∨ b = 45) with h | h
        · have h6 := h5 h
          rw [decide_eq_false h6.1, decide_eq_false h6.2]; simp
        · have h7 : ¬ b = 43 := fun e => h (.inl e)
          have h8 : ¬ b = 45 := fun e => h (.inr e)
          rw [decide_eq_false h7, decide_eq_false h8]; rfl
      rw [hc] at hp
      simp at hp
      omega
  · have hn : ¬ i < s.length := by omega
    have h0 : ∀ p, numRun p [] = 0 := fun _ => rfl
    rw [drop_nil hge, h0] at hp
    simp -implicitDefEqProofs [hn]
    intro _
    refine callK_still (r := .bool false) (fun h => absurd h (by simp)) ?_
    simp -implicitDefEqProofs
    refine callK_still (r := .bool false) (fun h => absurd h (by simp)) ?_
    simp -implicitDefEqProofs
    omega
theorem c_numberEnd (s : Bs) (a : Nat) (hs : s.length ≤ 1000000000) (ha : a < s.length) (K) : Ct Tryz.prog 153 [.str s, .int .i64 a] K (.int .i64 (numTE s a : Nat)) K := by
  have w1 : IntKind.i64.wrap ((a : Int) + 1) = (a + 1 : Nat) := by rw [wrap64 (by omega) (by omega)]; rfl
  generalize hR : numTE s a = R
  unfold numTE at hR
  refine ct_fn { n0 := 8, ex := [], tk := [30, 50] } Tryz.func153 rfl (by kernel_rfl) (by kernel_rfl) rfl ?_
  simp -implicitDefEqProofs [Tryz.f153, w1]
  obtain ⟨I, hI⟩ : ∃ I : Nat → St → Prop, ∀ m st, I m st ↔ ∃ i j, i = j + 1 ∧ i ≤ s.length ∧ m = s.length - i ∧ i + numRun (s.getD j 0) (s.drop i) = R ∧
    st = { env := [(0, .str s), (1, .int .i64 a), (4, .int .i64 0), (5, .int .i64 i)], loc := [], K := [] :: K } := ⟨_, fun _ _ => Iff.rfl⟩
  refine wC_loopI I (s.length - (a + 1)) ((hI _ _).2 ⟨a + 1, a, rfl, by omega, rfl, hR, rfl⟩) (St.le_of (by simp) (by simp) rfl (by simp)) ?_
  intro m st hst
  obtain ⟨i, j, hij, hi, rfl, hp, rfl⟩ := (hI _ _).1 hst
  clear hst
  rcases Nat.lt_or_ge i s.length with hlt | hge
  · obtain ⟨b, hx⟩ : ∃ b, s[i]? = some b := ⟨_, List.getElem?_eq_getElem hlt⟩
    have hxe : s[i]'hlt = b := (List.getElem?_eq_some_iff.1 hx).2
    have hltj : j < s.length := by omega
    obtain ⟨p, hy⟩ : ∃ b, s[j]? = some b := ⟨_, List.getElem?_eq_getElem hltj⟩
    have hye : s[j]'hltj = p := (List.getElem?_eq_some_iff.1 hy).2
    have hgj : s.getD j 0 = p := by rw [List.getD_eq_getElem?_getD, hy]; rfl
    have hgi : s.getD i 0 = b := by rw [List.getD_eq_getElem?_getD, hx]; rfl
    have w2 : IntKind.i64.wrap ((i : Int) + 1) = (i + 1 : Nat) := by rw [wrap64 (by omega) (by omega)]; rfl
    have w3 : IntKind.i64.wrap ((i : Int) - 1) = (j : Nat) := by rw [wrap64 (by omega) (by omega)]; omega
    have e46 : (b.toNat : Int) = 46 ↔ b = 46 := u8_eq (c := 46)
    have e43 : (b.toNat : Int) = 43 ↔ b = 43 := u8_eq (c := 43)
    have e45 : (b.toNat : Int) = 45 ↔ b = 45 := u8_eq (c := 45)
    have e101 : (p.toNat : Int) = 101 ↔ p = 101 := u8_eq (c := 101)
    have e69 : (p.toNat : Int) = 69 ↔ p = 69 := u8_eq (c := 69)
    rw [hgj, drop_cons hx, numRun] at hp
    simp -implicitDefEqProofs [hlt, hltj, hxe, hx, hy, hye, w2, w3, e101, e69]
    intro _
    refine callK_of (c_inName b _) ?_
    simp -implicitDefEqProofs [e46, e43, e45, w2]
    refine ⟨fun h1 h2 h3 => ?_, fun h => ?_⟩
    · have hc : (isNm b || decide (b = 46) || ((decide (b = 43) || decide (b = 45)) && (decide (p = 101) || decide (p = 69)))) = false := by
        rw [h1, decide_eq_false h2]
        rcases h3 with ⟨h, h'⟩ | ⟨h, h'⟩ <;> rw [decide_eq_false h, decide_eq_false h'] <;> simp
      rw [hc] at hp
      simp at hp
      omega
    · have hc : (isNm b || decide (b = 46) || ((decide (b = 43) || decide (b = 45)) && (decide (p = 101) || decide (p = 69)))) = true := by
        cases hN : isNm b with
        | true => rfl
        | false =>
          rcases Decidable.em (b = 46) with h46 | h46
          · rw [decide_eq_true h46]; rfl
          · obtain ⟨g1, g2⟩ := h hN h46
            have k1 : (decide (b = 43) || decide (b = 45)) = true := by
              rcases Decidable.em (b = 43) with e | e
              · rw [decide_eq_true e]; rfl
              · rw [decide_eq_true (g1 e)]; simp
            have k2 : (decide (p = 101) || decide (p = 69)) = true := by
              rcases Decidable.em (p = 101) with e | e
              · rw [decide_eq_true e]; rfl
              · rw [decide_eq_true (g2 e)]; simp
            rw [k1, k2]; simp
      rw [hc, if_pos rfl] at hp
      exact ⟨s.length - (i + 1), by omega, _, St.le_of (by simp) (by simp [St.trunc, look, mapV, mapC, killP]) rfl (by simp [St.trunc, mapC]), (hI _ _).2 ⟨i + 1, i, rfl, by omega, rfl, by rw [hgi]; omega, rfl⟩⟩
  · have hn : ¬ i < s.length := by omega
    have h0 : ∀ p, numRun p [] = 0 := fun _ => rfl
    rw [drop_nil hge, h0] at hp
    simp -implicitDefEqProofs [hn]
    omega
end Go.Proofs.YtkefgpmnimpcdaaGreatDoor.Abs
