/- The reference's sort without doubles, turned from Names. No condition. -/
import Derived.Test.YtkpdlbidadcdjaaSorted
import Derived.Test.YtkpdlbidadcdjaaSelsP
import Derived.Test.YtkpdlbidadcdjaaStrs
set_option linter.unusedVariables false
set_option linter.unusedSimpArgs false
namespace Go.Proofs.Ytkpdlbidadcdjaa.Abs
open Go
set_option maxHeartbeats 1000000
set_option maxRecDepth 100000
theorem c_l18Sorted : ∀ (n : Nat) (xs : List Bs) (K : List (List (List AC))), xs.length ≤ n → n ≤ 2000000 → Ct Try.prog 22 [.sl .no xs.length (encR .no (tStrS xs))] K (.sl (.of 9) (sortU xs).length (encR .of (tStrS (sortU xs)))) K := by
  intro n
  induction n with
  | zero =>
    intro xs K hn hb
    obtain rfl : xs = [] := List.eq_nil_of_length_eq_zero (by omega)
    have e : sortU [] = [] := by rw [sortU]; simp
    rw [e]
    refine ct_fn { n0 := 9, ex := [], tk := [12, 14, 20, 26, 27, 84, 86, 87, 88] } Try.func22 rfl (by kernel_rfl) (by kernel_rfl) rfl ?_
    simp -implicitDefEqProofs [Try.f22, tStrS, encR]
    try (unfold maxLen; omega)
  | succ n ih =>
  intro xs K hn hb
  generalize hr : sortU xs = r
  refine ct_fn { n0 := 9, ex := [], tk := [12, 14, 20, 26, 27, 84, 86, 87, 88] } Try.func22 rfl (by kernel_rfl) (by kernel_rfl) rfl ?_
  simp -implicitDefEqProofs [Try.f22]
  intro h1
  refine ⟨fun h => ⟨h1, by omega, by simp [encStr'], ?_⟩, fun h h2 => ?_⟩
  · rw [← hr, sortU, dif_pos (by omega)]; simp [encStr']
  · rw [sortU, dif_neg (by omega)] at hr
    obtain ⟨hf, hhf⟩ : ∃ hf, hf = xs.length / 2 := ⟨_, rfl⟩
    rw [← hhf] at hr
    have e1 : ((xs.length : Int) / 2) = hf := by omega
    have hf1 : 1 ≤ hf ∧ hf < xs.length := by omega
    clear hhf
    have w1 : IntKind.i64.wrap (hf : Int) = hf := wrap64 (by omega) (by omega)
    have nA : (xs.take hf).length = hf := by simp; omega
    have nB : (xs.drop hf).length = xs.length - hf := by simp
    have hA := ih (xs.take hf) ([] :: K) (by omega) (by omega)
    have hB := ih (xs.drop hf) ([] :: K) (by omega) (by omega)
    have lA := sortU_len _ (xs.take hf) (Nat.le_refl _)
    have lB := sortU_len _ (xs.drop hf) (Nat.le_refl _)
    have tA : (encR .no (tStrS xs)).take hf = encR .no (tStrS (xs.take hf)) := by simp [encStr']
    have tB : ((encR .no (tStrS xs)).take xs.length).drop hf = encR .no (tStrS (xs.drop hf)) := by
      rw [List.take_of_length_le (by simp [encStr'])]; simp [encStr']
    rw [nA] at hA lA
    rw [nB] at hB lB
    generalize sortU (xs.take hf) = A at *
    generalize sortU (xs.drop hf) = B at *
    rw [e1, w1]
    refine ⟨⟨by omega, by omega⟩, ?_⟩
    simp only [Int.toNat_natCast, tA]
    refine callK_of hA ?_
    simp -implicitDefEqProofs [e1, w1, tB]
    intro h3
    refine ⟨by omega, ?_⟩
    refine callK_of hB ?_
    simp -implicitDefEqProofs
    obtain ⟨I, hI⟩ : ∃ I : Nat → St → Prop, ∀ m s, I m s ↔ ∃ (i k : Nat) (out : List Bs), i ≤ A.length ∧ k ≤ B.length ∧ m = A.length - i + (B.length - k) ∧ out.length ≤ i + k ∧ mergeU (A.drop i) (B.drop k) out = r ∧
      s = { env := [(0, .sl .no xs.length (encR .no (tStrS xs))), (3, .sl (.of 9) A.length (encR .of (tStrS A))), (4, .sl (.of 9) B.length (encR .of (tStrS B))), (5, .sl (.of 9) out.length (encR .of (tStrS out))), (6, .int .i64 i), (7, .int .i64 k)], loc := [], K := [] :: K } := ⟨_, fun _ _ => Iff.rfl⟩
    refine wC_loopI I (A.length + B.length) ((hI _ _).2 ⟨0, 0, [], by omega, by omega, by omega, by simp, by simpa using hr, rfl⟩) (St.le_of (by simp) (by simp [encStr']) rfl rfl) ?_
    intro m s hs
    obtain ⟨i, k, out, hi, hk, rfl, hol, hz, rfl⟩ := (hI _ _).1 hs
    clear hs hA hB ih
    rcases Nat.lt_or_ge i A.length with hli | hgi
    · obtain ⟨x, hx⟩ : ∃ x, A[i]? = some x := ⟨_, List.getElem?_eq_getElem hli⟩
      have ea := atStr (m := .no) hx
      simp only [Nat.mul_one, encL, encT] at ea
      rcases Nat.lt_or_ge k B.length with hlk | hgk
      · obtain ⟨y, hy⟩ : ∃ y, B[k]? = some y := ⟨_, List.getElem?_eq_getElem hlk⟩
        have eb := atStr (m := .no) hy
        simp only [Nat.mul_one, encL, encT] at eb
        rcases List.eq_nil_or_concat out with rfl | ⟨L, l, rfl⟩
        · have hm1 : 1 ≤ maxLen := by unfold maxLen; omega
          simp -implicitDefEqProofs [hli, hlk, ea, eb, encStrS_len]
          intros
          refine wRun_draw true rfl (by decide +kernel) ?_
          simp -implicitDefEqProofs [hli, hlk, ea, eb, encStrS_len, tStrS, encR, hm1]
          refine ⟨fun hc => ?_, fun hc hc2 => ?_⟩
          · have hz1 := hz
            rw [merge_a hx (fun y2 hy2 => by rw [hy] at hy2; cases hy2; rcases hc with h7 | h7 | h7 <;> first | omega | simp [h7]), push_nil] at hz1
            unfold maxLen at *
            simp (disch := omega) only [wrap64]
            exact ⟨A.length - (i + 1) + (B.length - (k)), by omega, _, St.le_of (by simp) (by simp [St.trunc, look, mapV, mapC, killP, encStr']) rfl (by simp [St.trunc, mapC]), (hI _ _).2 ⟨i + 1, k, [x], by omega, by omega, rfl, by simp at hol ⊢; omega, hz1, rfl⟩⟩
          · have hz1 := hz
            rw [merge_b hy (fun x2 hx2 => by rw [hx] at hx2; cases hx2; simp [hc, hc2]), push_nil] at hz1
            unfold maxLen at *
            simp (disch := omega) only [wrap64]
            exact ⟨A.length - (i) + (B.length - (k + 1)), by omega, _, St.le_of (by simp) (by simp [St.trunc, look, mapV, mapC, killP, encStr']) rfl (by simp [St.trunc, mapC]), (hI _ _).2 ⟨i, k + 1, [y], by omega, by omega, rfl, by simp at hol ⊢; omega, hz1, rfl⟩⟩
        · simp only [List.concat_eq_append] at hol hz ⊢
          have wl : IntKind.i64.wrap (L.length : Int) = L.length := wrap64 (by omega) (by simp at hol; omega)
          have el : ((encR .no (tStrS (L ++ [l]))).drop L.length).take 1 = [.str l] := by simp [encStr']
          have hnz : ¬ ((L.length : Int) + 1 = 0) := by omega
          have hml : L.length + 1 ≤ maxLen := by unfold maxLen; simp at hol; omega
          have hml2 : L.length + 1 + 1 ≤ maxLen := by unfold maxLen; simp at hol; omega
          have hml3 : (L.length + 1 + 1) * 16 ≤ 140737488355328 := by simp at hol; omega
          simp -implicitDefEqProofs [hli, hlk, ea, eb, encStrS_len]
          intros
          refine wRun_draw true rfl (by decide +kernel) ?_
          simp -implicitDefEqProofs [hli, hlk, ea, eb, encStrS_len, wl, el, hnz, hml, hml2, hml3]
          refine ⟨fun hc => ?_, fun hc hc2 => ?_⟩
          · refine ⟨by omega, fun hl => ?_, fun hl => ?_⟩
            · have hz1 := hz
              rw [merge_a hx (fun y2 hy2 => by rw [hy] at hy2; cases hy2; rcases hc with h7 | h7 | h7 <;> first | omega | simp [h7]), push_ne hl] at hz1
              unfold maxLen at *
              simp (disch := omega) only [wrap64]
              exact ⟨A.length - (i + 1) + (B.length - (k)), by omega, _, St.le_of (by simp) (by simp [St.trunc, look, mapV, mapC, killP, encStr']) rfl (by simp [St.trunc, mapC]), (hI _ _).2 ⟨i + 1, k, L ++ [l] ++ [x], by omega, by omega, rfl, by simp at hol ⊢; omega, hz1, rfl⟩⟩
            · have hz1 := hz
              rw [merge_a hx (fun y2 hy2 => by rw [hy] at hy2; cases hy2; rcases hc with h7 | h7 | h7 <;> first | omega | simp [h7]), push_eq hl] at hz1
              unfold maxLen at *
              simp (disch := omega) only [wrap64]
              exact ⟨A.length - (i + 1) + (B.length - (k)), by omega, _, St.le_of (by simp) (by simp [St.trunc, look, mapV, mapC, killP, encStr']) rfl (by simp [St.trunc, mapC]), (hI _ _).2 ⟨i + 1, k, L ++ [l], by omega, by omega, rfl, by simp at hol ⊢; omega, hz1, rfl⟩⟩
          · refine ⟨by omega, fun hl => ?_, fun hl => ?_⟩
            · have hz1 := hz
              rw [merge_b hy (fun x2 hx2 => by rw [hx] at hx2; cases hx2; simp [hc, hc2]), push_ne hl] at hz1
              unfold maxLen at *
              simp (disch := omega) only [wrap64]
              exact ⟨A.length - (i) + (B.length - (k + 1)), by omega, _, St.le_of (by simp) (by simp [St.trunc, look, mapV, mapC, killP, encStr']) rfl (by simp [St.trunc, mapC]), (hI _ _).2 ⟨i, k + 1, L ++ [l] ++ [y], by omega, by omega, rfl, by simp at hol ⊢; omega, hz1, rfl⟩⟩
            · have hz1 := hz
              rw [merge_b hy (fun x2 hx2 => by rw [hx] at hx2; cases hx2; simp [hc, hc2]), push_eq hl] at hz1
              unfold maxLen at *
              simp (disch := omega) only [wrap64]
              exact ⟨A.length - (i) + (B.length - (k + 1)), by omega, _, St.le_of (by simp) (by simp [St.trunc, look, mapV, mapC, killP, encStr']) rfl (by simp [St.trunc, mapC]), (hI _ _).2 ⟨i, k + 1, L ++ [l], by omega, by omega, rfl, by simp at hol ⊢; omega, hz1, rfl⟩⟩
      · have e : k = B.length := by omega
        subst e
        have hd : (encR .no (tStrS B)).drop B.length = [] := List.drop_of_length_le (by simp [encStr'])
        rcases List.eq_nil_or_concat out with rfl | ⟨L, l, rfl⟩
        · have hm1 : 1 ≤ maxLen := by unfold maxLen; omega
          simp -implicitDefEqProofs [hli, ea, encStrS_len, hd]
          intros
          refine wRun_draw true rfl (by decide +kernel) ?_
          simp -implicitDefEqProofs [hli, ea, encStrS_len, hd, tStrS, encR, hm1]
          have hz1 := hz
          rw [merge_a hx (fun y2 hy2 => by have := (List.getElem?_eq_some_iff.1 hy2).1; omega), push_nil] at hz1
          unfold maxLen at *
          simp (disch := omega) only [wrap64]
          exact ⟨A.length - (i + 1) + (B.length - (B.length)), by omega, _, St.le_of (by simp) (by simp [St.trunc, look, mapV, mapC, killP, encStr']) rfl (by simp [St.trunc, mapC]), (hI _ _).2 ⟨i + 1, B.length, [x], by omega, by omega, rfl, by simp at hol ⊢; omega, hz1, rfl⟩⟩
        · simp only [List.concat_eq_append] at hol hz ⊢
          have wl : IntKind.i64.wrap (L.length : Int) = L.length := wrap64 (by omega) (by simp at hol; omega)
          have el : ((encR .no (tStrS (L ++ [l]))).drop L.length).take 1 = [.str l] := by simp [encStr']
          have hnz : ¬ ((L.length : Int) + 1 = 0) := by omega
          have hml : L.length + 1 ≤ maxLen := by unfold maxLen; simp at hol; omega
          have hml2 : L.length + 1 + 1 ≤ maxLen := by unfold maxLen; simp at hol; omega
          have hml3 : (L.length + 1 + 1) * 16 ≤ 140737488355328 := by simp at hol; omega
          simp -implicitDefEqProofs [hli, ea, encStrS_len, hd]
          intros
          refine wRun_draw true rfl (by decide +kernel) ?_
          simp -implicitDefEqProofs [hli, ea, encStrS_len, hd, wl, el, hnz, hml, hml2, hml3]
          refine ⟨by omega, fun hl => ?_, fun hl => ?_⟩
          · have hz1 := hz
            rw [merge_a hx (fun y2 hy2 => by have := (List.getElem?_eq_some_iff.1 hy2).1; omega), push_ne hl] at hz1
            unfold maxLen at *
            simp (disch := omega) only [wrap64]
            exact ⟨A.length - (i + 1) + (B.length - (B.length)), by omega, _, St.le_of (by simp) (by simp [St.trunc, look, mapV, mapC, killP, encStr']) rfl (by simp [St.trunc, mapC]), (hI _ _).2 ⟨i + 1, B.length, L ++ [l] ++ [x], by omega, by omega, rfl, by simp at hol ⊢; omega, hz1, rfl⟩⟩
          · have hz1 := hz
            rw [merge_a hx (fun y2 hy2 => by have := (List.getElem?_eq_some_iff.1 hy2).1; omega), push_eq hl] at hz1
            unfold maxLen at *
            simp (disch := omega) only [wrap64]
            exact ⟨A.length - (i + 1) + (B.length - (B.length)), by omega, _, St.le_of (by simp) (by simp [St.trunc, look, mapV, mapC, killP, encStr']) rfl (by simp [St.trunc, mapC]), (hI _ _).2 ⟨i + 1, B.length, L ++ [l], by omega, by omega, rfl, by simp at hol ⊢; omega, hz1, rfl⟩⟩
    · have e : i = A.length := by omega
      subst e
      rcases Nat.lt_or_ge k B.length with hlk | hgk
      · obtain ⟨y, hy⟩ : ∃ y, B[k]? = some y := ⟨_, List.getElem?_eq_getElem hlk⟩
        have eb := atStr (m := .no) hy
        simp only [Nat.mul_one, encL, encT] at eb
        have hd : (encR .no (tStrS A)).drop A.length = [] := List.drop_of_length_le (by simp [encStr'])
        rcases List.eq_nil_or_concat out with rfl | ⟨L, l, rfl⟩
        · have hm1 : 1 ≤ maxLen := by unfold maxLen; omega
          simp -implicitDefEqProofs [hlk, eb, encStrS_len, hd]
          intros
          refine wRun_draw true rfl (by decide +kernel) ?_
          simp -implicitDefEqProofs [hlk, eb, encStrS_len, hd, tStrS, encR, hm1]
          have hz1 := hz
          rw [merge_b hy (fun y2 hy2 => by have := (List.getElem?_eq_some_iff.1 hy2).1; omega), push_nil] at hz1
          unfold maxLen at *
          simp (disch := omega) only [wrap64]
          exact ⟨A.length - (A.length) + (B.length - (k + 1)), by omega, _, St.le_of (by simp) (by simp [St.trunc, look, mapV, mapC, killP, encStr']) rfl (by simp [St.trunc, mapC]), (hI _ _).2 ⟨A.length, k + 1, [y], by omega, by omega, rfl, by simp at hol ⊢; omega, hz1, rfl⟩⟩
        · simp only [List.concat_eq_append] at hol hz ⊢
          have wl : IntKind.i64.wrap (L.length : Int) = L.length := wrap64 (by omega) (by simp at hol; omega)
          have el : ((encR .no (tStrS (L ++ [l]))).drop L.length).take 1 = [.str l] := by simp [encStr']
          have hnz : ¬ ((L.length : Int) + 1 = 0) := by omega
          have hml : L.length + 1 ≤ maxLen := by unfold maxLen; simp at hol; omega
          have hml2 : L.length + 1 + 1 ≤ maxLen := by unfold maxLen; simp at hol; omega
          have hml3 : (L.length + 1 + 1) * 16 ≤ 140737488355328 := by simp at hol; omega
          simp -implicitDefEqProofs [hlk, eb, encStrS_len, hd]
          intros
          refine wRun_draw true rfl (by decide +kernel) ?_
          simp -implicitDefEqProofs [hlk, eb, encStrS_len, hd, wl, el, hnz, hml, hml2, hml3]
          refine ⟨by omega, fun hl => ?_, fun hl => ?_⟩
          · have hz1 := hz
            rw [merge_b hy (fun y2 hy2 => by have := (List.getElem?_eq_some_iff.1 hy2).1; omega), push_ne hl] at hz1
            unfold maxLen at *
            simp (disch := omega) only [wrap64]
            exact ⟨A.length - (A.length) + (B.length - (k + 1)), by omega, _, St.le_of (by simp) (by simp [St.trunc, look, mapV, mapC, killP, encStr']) rfl (by simp [St.trunc, mapC]), (hI _ _).2 ⟨A.length, k + 1, L ++ [l] ++ [y], by omega, by omega, rfl, by simp at hol ⊢; omega, hz1, rfl⟩⟩
          · have hz1 := hz
            rw [merge_b hy (fun y2 hy2 => by have := (List.getElem?_eq_some_iff.1 hy2).1; omega), push_eq hl] at hz1
            unfold maxLen at *
            simp (disch := omega) only [wrap64]
            exact ⟨A.length - (A.length) + (B.length - (k + 1)), by omega, _, St.le_of (by simp) (by simp [St.trunc, look, mapV, mapC, killP, encStr']) rfl (by simp [St.trunc, mapC]), (hI _ _).2 ⟨A.length, k + 1, L ++ [l], by omega, by omega, rfl, by simp at hol ⊢; omega, hz1, rfl⟩⟩
      · have e : k = B.length := by omega
        subst e
        simp -implicitDefEqProofs
        intros
        rw [List.drop_of_length_le (Nat.le_refl _), List.drop_of_length_le (Nat.le_refl _), mergeU] at hz
        subst hz; exact .refl
end Go.Proofs.Ytkpdlbidadcdjaa.Abs
