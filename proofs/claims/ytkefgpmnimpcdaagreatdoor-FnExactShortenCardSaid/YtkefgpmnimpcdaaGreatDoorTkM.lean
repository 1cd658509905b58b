/- The token that begins at a place: the reference. No condition. -/
import Derived.Test.YtkefgpmnimpcdaaGreatDoorTkF
import Derived.Test.YtkefgpmnimpcdaaGreatDoorTkC
import Derived.Test.YtkefgpmnimpcdaaGreatDoorTkK
set_option linter.unusedVariables false
set_option linter.unusedSimpArgs false
namespace Go.Proofs.YtkefgpmnimpcdaaGreatDoor.Abs
open Go
set_option maxHeartbeats 4000000
set_option maxRecDepth 100000
/-- A token's cells, as the reference returns them. -/
def tkS (t : DToken) : AC := .agg [.int .i64 t.kind, .str t.text, .int .i64 t.at_]
theorem drop_take_cutS {s : Bs} {a e : Nat} : (s.take e).drop a = cutT s a e := rfl
theorem three_of_pre (s : Bs) (a : Nat) (h : dots3 s a = true) : (s.take (a + 3)).drop a = [46, 46, 46] := by
  have := cutT_run s a 3
  unfold cutT at this
  rw [this]
  exact (List.prefix_iff_eq_take.1 (List.isPrefixOf_iff_prefix.1 h)).symm
theorem pre_of_three (s : Bs) (a : Nat) (hl : a + 3 ≤ s.length) (h : (s.take (a + 3)).drop a = [46, 46, 46]) : dots3 s a = true := by
  have := cutT_run s a 3
  unfold cutT at this
  rw [this] at h
  unfold dots3
  rw [List.isPrefixOf_iff_prefix, List.prefix_iff_eq_take]
  exact h.symm
theorem let_split {b : UInt8} (h : (isLet b || isUn b) = false) : isLet b = false ∧ isUn b = false := by simpa using h
theorem c_l06One (s : Bs) (a : Nat) (hs : s.length ≤ 100000) (ha : a < s.length) (K) : Ct Tryz.prog 51 [.str s, .int .i64 a] K (.tup [tkS (refT s a).1.1, .int .i64 ((refT s a).1.2 : Nat), .int .i64 (refT s a).2]) K := by
  have hNm := fun K => c_l06Name s a (by omega) (by omega) K
  have hNu := fun K => c_l06Number s a (by omega) ha K
  have h3 := fun K => c_l05Three s a (by omega) (by omega) K
  have hB := fun K => c_BlockEndS s a (by omega) (by omega) K
  have hSE := fun K => c_StringEndS s a (by omega) (by omega) K
  have hbn := blkEnd_bnd s a
  have hsn := strEnd_cases s a
  have hnl := numTE_le s a ha
  have hml := nameEnd_le s a (by omega)
  obtain ⟨b, hx⟩ : ∃ b, s[a]? = some b := ⟨_, List.getElem?_eq_getElem ha⟩
  have hxe : s[a]'ha = b := (List.getElem?_eq_some_iff.1 hx).2
  have hg : s.getD a 0 = b := by rw [List.getD_eq_getElem?_getD, hx]; rfl
  have w1 : IntKind.i64.wrap ((a : Int) + 1) = (a + 1 : Nat) := by rw [wrap64 (by omega) (by omega)]; rfl
  have w3 : IntKind.i64.wrap ((a : Int) + 3) = (a + 3 : Nat) := by rw [wrap64 (by omega) (by omega)]; rfl
  have e34 : (b.toNat : Int) = 34 ↔ b = 34 := u8_eq (c := 34)
  have e45 : (b.toNat : Int) = 45 ↔ b = 45 := u8_eq (c := 45)
  have cN := cutT_len s a (nameEnd s a) hml.2
  have cM := cutT_len s a (numTE s a) hnl.2
  generalize hR : refT s a = R
  unfold refT at hR
  simp only [hg] at hR
  refine ct_fn { n0 := 13, ex := [], tk := [14, 19, 22, 31, 33, 34, 35, 36, 41, 50, 59, 60, 61, 65, 67, 68, 69, 70, 79, 82, 90, 96, 104, 110, 111, 112, 113, 139, 141, 142, 143, 144] } Tryz.func51 rfl (by kernel_rfl) (by kernel_rfl) rfl ?_
  simp -implicitDefEqProofs [Tryz.f51, hx, hxe, ha]
  refine callK_of (c_l03Letter b _) ?_
  cases hl : (isLet b || isUn b) with
  | true =>
    have hl' : isLet b = true ∨ isUn b = true := by simpa using hl
    rw [hl] at hR
    simp only [if_true] at hR
    simp -implicitDefEqProofs [hl, hl']
    obtain ⟨e, he⟩ : ∃ e, nameEnd s a = e := ⟨_, rfl⟩
    rw [he] at hml hR hNm cN
    refine callK_of (hNm _) ?_
    simp -implicitDefEqProofs
    refine ⟨by omega, ?_⟩
    rw [show (s.take e).drop a = cutT s a e from rfl]
    refine callK_of (c_NameOkS _ (by omega) _) ?_
    generalize cutT s a e = t at *
    cases hk : nameOk t with
    | true =>
      rw [hk, if_pos rfl] at hR
      subst hR
      simp -implicitDefEqProofs
      simp -implicitDefEqProofs (maxDischargeDepth := 6) [tkS, AC.le_agg]
    | false =>
      rw [hk, if_neg (by simp)] at hR
      subst hR
      simp -implicitDefEqProofs
      simp -implicitDefEqProofs (maxDischargeDepth := 6) [tkS, AC.le_agg]
  | false =>
    obtain ⟨l1, l2⟩ := let_split hl
    rw [hl] at hR
    simp only [Bool.false_eq_true, if_false] at hR
    simp -implicitDefEqProofs [l1, l2, hx, hxe, ha]
    refine callK_of (c_l03Figure b _) ?_
    simp -implicitDefEqProofs [e45, hx, hxe, ha]
    cases hn : (isFig b || decide (b = 45)) with
    | true =>
      have hn' : isFig b = true ∨ b = 45 := by simpa using hn
      rw [hn] at hR
      simp only [if_true] at hR
      obtain ⟨e, he⟩ : ∃ e, numTE s a = e := ⟨_, rfl⟩
      rw [he] at hnl hR hNu cM
      have hn2 : isFig b = true ∨ (isFig b = false ∧ b = 45) := by
        cases h : isFig b with
        | true => exact .inl rfl
        | false => exact .inr ⟨rfl, by simpa [h] using hn'⟩
      rcases hn2 with hf | ⟨hf, hb⟩
      case' inl => simp -implicitDefEqProofs [hf, hx, hxe, ha]
      case' inr => simp -implicitDefEqProofs [hf, hb, hx, hxe, ha]
      all_goals
        refine callK_of (hNu _) ?_
        simp -implicitDefEqProofs
        refine ⟨by omega, ?_⟩
        rw [show (s.take e).drop a = cutT s a e from rfl]
        refine callK_of (c_IntOkS _ (by omega) _) ?_
        have cM2 : (cutT s a e).length ≤ 1000000000 := by omega
        generalize cutT s a e = t at *
        cases hio : intOk t with
        | true =>
          rw [hio, if_pos rfl] at hR
          subst hR
          simp -implicitDefEqProofs
          simp -implicitDefEqProofs (maxDischargeDepth := 6) [tkS, AC.le_agg]
        | false =>
          rw [hio, if_neg (by simp)] at hR
          simp -implicitDefEqProofs
          refine callK_of (c_FloatOkS _ cM2 _) ?_
          cases hfo : floatOk t with
          | true =>
            rw [hfo, if_pos rfl] at hR
            subst hR
            simp -implicitDefEqProofs
            simp -implicitDefEqProofs (maxDischargeDepth := 6) [tkS, AC.le_agg]
          | false =>
            rw [hfo, if_neg (by simp)] at hR
            subst hR
            simp -implicitDefEqProofs
            simp -implicitDefEqProofs (maxDischargeDepth := 6) [tkS, AC.le_agg]
    | false =>
      have hf : isFig b = false := by cases h : isFig b <;> simp [h] at hn ⊢
      have hb : ¬ b = 45 := by
        intro h; rw [decide_eq_true h] at hn; simp at hn
      rw [hn] at hR
      simp only [Bool.false_eq_true, if_false] at hR
      by_cases h34 : b = 34
      · rw [if_pos h34] at hR
        subst h34
        unfold textR at hR
        simp -implicitDefEqProofs [hf, hx, hxe, ha]
        refine callK_of (h3 _) ?_
        cases hth : three s a with
        | true =>
          rw [hth, if_pos rfl] at hR
          simp -implicitDefEqProofs
          refine callK_of (hB _) ?_
          rcases hbn with hb | ⟨hb1, hb2⟩
          · rw [hb] at hR ⊢
            simp at hR
            subst hR
            simp -implicitDefEqProofs
            simp -implicitDefEqProofs (maxDischargeDepth := 6) [tkS, AC.le_agg]
          · obtain ⟨e, he⟩ : ∃ e : Nat, blkEnd s a = e := ⟨(blkEnd s a).toNat, by omega⟩
            rw [he] at hR hb1 hb2 ⊢
            have hn0 : ¬ ((e : Nat) : Int) < 0 := by omega
            have hn1 : (0 : Int) ≤ ((e : Nat) : Int) := by omega
            rw [if_neg hn0, Int.toNat_natCast] at hR
            have hcl := cutT_len s a e (by omega)
            simp -implicitDefEqProofs [hn0, hn1]
            refine ⟨by omega, ?_⟩
            rw [show (s.take e).drop a = cutT s a e from rfl]
            refine callK_of (c_BlockTextS _ (by omega) _) ?_
            generalize blkText (cutT s a e) = r at *
            obtain ⟨t, ok⟩ := r
            cases ok with
            | true =>
              simp at hR; subst hR
              simp -implicitDefEqProofs
              simp -implicitDefEqProofs (maxDischargeDepth := 6) [tkS, AC.le_agg]
            | false =>
              simp at hR; subst hR
              simp -implicitDefEqProofs
              simp -implicitDefEqProofs (maxDischargeDepth := 6) [tkS, AC.le_agg]
        | false =>
          rw [hth, if_neg (by simp)] at hR
          simp -implicitDefEqProofs
          refine callK_of (hSE _) ?_
          rcases hsn with hb | ⟨e, he, hb1, hb2, _⟩
          · rw [hb] at hR ⊢
            simp at hR
            subst hR
            simp -implicitDefEqProofs
            simp -implicitDefEqProofs (maxDischargeDepth := 6) [tkS, AC.le_agg]
          · rw [he] at hR ⊢
            have hn0 : ¬ ((e : Nat) : Int) < 0 := by omega
            have hn1 : (0 : Int) ≤ ((e : Nat) : Int) := by omega
            rw [if_neg hn0, Int.toNat_natCast] at hR
            have hcl := cutT_len s a e (by omega)
            simp -implicitDefEqProofs [hn0, hn1]
            refine ⟨by omega, ?_⟩
            rw [show (s.take e).drop a = cutT s a e from rfl]
            refine callK_of (c_UnescapedS _ (by omega) _) ?_
            generalize unesc (cutT s a e) = r at *
            obtain ⟨t, ok⟩ := r
            cases ok with
            | true =>
              simp at hR; subst hR
              simp -implicitDefEqProofs
              simp -implicitDefEqProofs (maxDischargeDepth := 6) [tkS, AC.le_agg]
            | false =>
              simp at hR; subst hR
              simp -implicitDefEqProofs
              simp -implicitDefEqProofs (maxDischargeDepth := 6) [tkS, AC.le_agg]
      · rw [if_neg h34] at hR
        have t3 : ((a : Int) + 3).toNat = a + 3 := by omega
        have t1 : ((a : Int) + 1).toNat = a + 1 := by omega
        cases hd : dots3 s a with
        | true =>
          have hdl := (List.isPrefixOf_iff_prefix.1 hd).length_le
          rw [List.length_drop] at hdl
          have hdl : a + 3 ≤ s.length := by simp at hdl; omega
          have hdi : (a : Int) + 3 ≤ s.length := by omega
          have hcd : (s.take (a + 3)).drop a = [46, 46, 46] := (three_of_pre s a hd)
          simp only [hd, if_true] at hR
          rw [show cutT s a (a + 3) = [46, 46, 46] from hcd] at hR
          simp -implicitDefEqProofs [hf, hb, h34, e34, hx, hxe, ha, w1, w3, t3, t1, hdl, hdi, hcd]
          refine fun _ => ⟨by omega, callK_of (c_SignOkS _ _) ?_⟩
          generalize ([46, 46, 46] : Bs) = t at *
          cases hso : signOk t with
          | true =>
            rw [hso, if_pos rfl] at hR
            subst hR
            simp -implicitDefEqProofs
            simp -implicitDefEqProofs (maxDischargeDepth := 6) [tkS, AC.le_agg]
          | false =>
            rw [hso, if_neg (by simp)] at hR
            subst hR
            simp -implicitDefEqProofs
            simp -implicitDefEqProofs (maxDischargeDepth := 6) [tkS, AC.le_agg]
        | false =>
          have hcd : ¬ ((a : Int) + 3 ≤ s.length ∧ (s.take (a + 3)).drop a = [46, 46, 46]) := fun h => by
            rw [pre_of_three s a (by omega) h.2] at hd; cases hd
          simp only [hd, Bool.false_eq_true, if_false] at hR
          simp -implicitDefEqProofs [hf, hb, h34, e34, hx, hxe, ha, w1, w3, t3, t1]
          refine fun _ => ⟨fun _ => ⟨by omega, by omega⟩, fun g1 g2 => absurd ⟨g1, g2⟩ hcd, fun _ => ⟨⟨by omega, by omega⟩, ?_⟩⟩
          rw [show (s.take (a + 1)).drop a = cutT s a (a + 1) from rfl]
          refine callK_of (c_SignOkS _ _) ?_
          generalize cutT s a (a + 1) = t at *
          cases hso : signOk t with
          | true =>
            rw [hso, if_pos rfl] at hR
            subst hR
            simp -implicitDefEqProofs
            simp -implicitDefEqProofs (maxDischargeDepth := 6) [tkS, AC.le_agg]
          | false =>
            rw [hso, if_neg (by simp)] at hR
            subst hR
            simp -implicitDefEqProofs
            simp -implicitDefEqProofs (maxDischargeDepth := 6) [tkS, AC.le_agg]
end Go.Proofs.YtkefgpmnimpcdaaGreatDoor.Abs
/- The tokens of a text: the reference. No condition. -/
set_option linter.unusedVariables false
set_option linter.unusedSimpArgs false
namespace Go.Proofs.YtkefgpmnimpcdaaGreatDoor.Abs
open Go
set_option maxHeartbeats 4000000
set_option maxRecDepth 100000
theorem le_tk0 {ty : Nat} : AC.le (.sl (.of ty) 0 []) (.sl .no 0 []) := le_ownK (by rw [shareL_eq]; rfl)
theorem c_TokensOfS (s : Bs) (hs : s.length ≤ 1048576) (K) : Ct Tryz.prog 10 [.str s] K (.tup [.sl .no (toks s).1.length (tkCs (toks s).1), .agg [.int .i64 (toks s).2.1, .int .i64 (toks s).2.2]]) K := by
  generalize hR : toks s = R
  unfold toks at hR
  refine ct_fn { n0 := 13, ex := [], tk := [13, 17, 18, 26, 31, 33, 37, 39, 46, 50, 63, 66, 67, 69, 70, 72, 73] } Tryz.func10 rfl (by kernel_rfl) (by kernel_rfl) rfl ?_
  simp -implicitDefEqProofs [Tryz.f10]
  intro _
  by_cases hl : 12000 < s.length
  · have hl2 : (12000 : Int) < s.length := by omega
    rw [if_pos hl] at hR
    subst hR
    have hl3 : ¬ (s.length : Int) ≤ 12000 := by omega
    simp -implicitDefEqProofs (maxDischargeDepth := 6) [hl, hl2, hl3, tkCs, AC.le_agg, le_tk0]
  · have hl2 : ¬ (12000 : Int) < s.length := by omega
    rw [if_neg hl] at hR
    have hl3 : (s.length : Int) ≤ 12000 := by omega
    simp -implicitDefEqProofs [hl, hl2, hl3]
    obtain ⟨I, hI⟩ : ∃ I : Nat → St → Prop, ∀ m st, I m st ↔ ∃ i n, i ≤ s.length ∧ m = s.length - i ∧ s.length - i ≤ n ∧ badAt (n + 1) s i = badAt (s.length + 1) s 0 ∧
      st = { env := [(0, .str s), (2, .sl .nil 0 []), (3, .ptr 0 0 0), (4, .sl .no 0 []), (5, .int .i64 i)], loc := [], K := [[.int .i64 0, .int .i64 0]] :: K } := ⟨_, fun _ _ => Iff.rfl⟩
    refine wC_loopI I s.length ((hI _ _).2 ⟨0, s.length, by omega, rfl, by omega, rfl, rfl⟩) (St.le_of (by simp) (by simp [le_tk0]) rfl (by simp)) ?_
    intro m st hst
    obtain ⟨i, n, hi, rfl, hn, hp, rfl⟩ := (hI _ _).1 hst
    clear hst
    rcases Nat.lt_or_ge i s.length with hlt | hge
    · rw [bad_step s n i hlt] at hp
      have hle := runeAt_le (l := s.drop i)
      have hneg := runeAt_neg (l := s.drop i)
      rw [List.length_drop] at hle
      simp -implicitDefEqProofs [hlt]
      intro _
      refine callK_of (c_RuneAtS s i _ (by omega) (by omega)) ?_
      generalize runeAt (s.drop i) = r at *
      by_cases h0 : r.2 = 0
      · rw [if_pos h0] at hp
        rw [← hp] at hR
        subst hR
        have hng := hneg.2 h0
        simp -implicitDefEqProofs (maxDischargeDepth := 6) [h0, hng, tkCs, AC.le_agg]
      · rw [if_neg h0] at hp
        have hng : ¬ r.1 < 0 := fun h => h0 (hneg.1 h)
        have w1 : IntKind.i64.wrap ((i : Int) + r.2) = (i + r.2 : Nat) := by rw [wrap64 (by omega) (by omega)]; rfl
        simp -implicitDefEqProofs [h0, hng, w1]
        obtain ⟨n, rfl⟩ : ∃ n', n = n' + 1 := ⟨n - 1, by omega⟩
        exact ⟨s.length - (i + r.2), by omega, _, St.le_of (by simp) (by simp [St.trunc, look, mapV, mapC, killP]) rfl (by simp [St.trunc, mapC]), (hI _ _).2 ⟨i + r.2, n, by omega, rfl, by omega, hp, rfl⟩⟩
    · have hn2 : ¬ i < s.length := by omega
      rw [badAt, if_pos hge] at hp
      rw [← hp] at hR
      simp -implicitDefEqProofs [hn2]
      clear hI hp
      clear I
      intros
      refine callK_of (c_l06Pass s 0 (by omega) (by omega) _) ?_
      have hp0 := skipP_le s 0 (by omega)
      simp -implicitDefEqProofs
      obtain ⟨J, hJ⟩ : ∃ J : Nat → St → Prop, ∀ m st, J m st ↔ ∃ i n acc, i ≤ s.length ∧ m = s.length - i ∧ s.length - i ≤ n ∧ acc.length ≤ 2500 ∧ toksG (n + 1) s i acc = R ∧
        st = { env := [(0, .str s), (2, .sl .nil 0 []), (3, .ptr 0 0 0), (4, .sl .no 0 []), (8, .sl (.of 104) acc.length (tkCs acc)), (9, .int .i64 i)], loc := [], K := [[.int .i64 0, .int .i64 0]] :: K } := ⟨_, fun _ _ => Iff.rfl⟩
      refine wC_loopI J (s.length - skipP s 0) ((hJ _ _).2 ⟨skipP s 0, s.length, [], by omega, rfl, by omega, by simp, hR, rfl⟩) (St.le_of (by simp) (by simp [tkCs]) rfl (by simp)) ?_
      clear hi hn hge hn2
      clear i n
      intro m st hst
      obtain ⟨i, n, acc, hi, rfl, hn, hacc, hp, rfl⟩ := (hJ _ _).1 hst
      clear hst
      have hcl := tkCs_len acc
      rw [toksG] at hp
      rcases Nat.lt_or_ge i s.length with hlt | hge
      · rw [if_neg (by omega)] at hp
        have hend := oneT_end s i hlt
        have href := ref_one s i hlt
        simp -implicitDefEqProofs [hlt]
        intro _
        refine callK_of (c_l06One s i (by omega) hlt _) ?_
        generalize hq : refT s i = q at *
        generalize oneT s i = r at *
        obtain ⟨⟨t, te⟩, tc⟩ := r
        obtain ⟨⟨t2, te2⟩, tc2⟩ := q
        simp only at hp hend href ⊢
        obtain ⟨rfl, href⟩ := href
        by_cases hc0 : tc2 = 0
        · subst hc0
          have hend := hend rfl
          have href := href rfl
          simp only [Prod.mk.injEq, and_true] at href
          obtain ⟨rfl, rfl⟩ := href
          rw [if_pos rfl] at hp
          by_cases h25 : acc.length = 2500
          · rw [if_pos h25] at hp
            subst hp
            simp -implicitDefEqProofs (maxDischargeDepth := 6) [h25, tkS, tkCs, AC.le_agg]
          · rw [if_neg h25] at hp
            have h25' : ¬ (acc.length : Int) = 2500 := by omega
            obtain ⟨n, rfl⟩ : ∃ n', n = n' + 1 := ⟨n - 1, by omega⟩
            have hpl := skipP_le s te2 hend.2
            simp -implicitDefEqProofs [h25, h25', tkS]
            refine fun _ => ⟨by unfold maxLen; omega, by omega, callK_of (c_l06Pass s te2 (by omega) hend.2 _) ?_⟩
            simp -implicitDefEqProofs
            exact ⟨s.length - skipP s te2, by omega, _, St.le_of (by simp) (by simp [St.trunc, look, mapV, mapC, killP, tkCs_snoc]) rfl (by simp [St.trunc, mapC]), (hJ _ _).2 ⟨skipP s te2, n, acc ++ [t2], hpl.2, rfl, by omega, by simp; omega, hp, rfl⟩⟩
        · rw [if_neg hc0] at hp
          subst hp
          simp -implicitDefEqProofs (maxDischargeDepth := 6) [hc0, tkS, tkCs, AC.le_agg]
      · rw [if_pos hge] at hp
        have hn2 : ¬ i < s.length := by omega
        subst hp
        simp -implicitDefEqProofs (maxDischargeDepth := 6) [hn2, AC.le_agg, le_tk]
end Go.Proofs.YtkefgpmnimpcdaaGreatDoor.Abs
