/- The token that begins at a place: the program's readText and readToken. No condition. -/
import Derived.Test.YtkefgpmnimpcdaaGreatDoorTkF
import Derived.Test.YtkefgpmnimpcdaaGreatDoorTkL
set_option linter.unusedVariables false
set_option linter.unusedSimpArgs false
namespace Go.Proofs.YtkefgpmnimpcdaaGreatDoor.Abs
open Go
set_option maxHeartbeats 4000000
set_option maxRecDepth 100000
/-- A token's cells. -/
def tkC (t : DToken) : AC := .agg [.int .i64 t.kind, .str t.text, .int .i64 t.at_]
theorem drop_take_cut {s : Bs} {a e : Nat} : (s.take e).drop a = cutT s a e := rfl
theorem c_readText (s : Bs) (a : Nat) (hs : s.length ≤ 100000) (ha : a ≤ s.length) (K) : Ct Tryz.prog 151 [.str s, .int .i64 a] K (.tup [tkC (textT s a).1.1, .int .i64 ((textT s a).1.2 : Nat), .int .i64 (textT s a).2]) K := by
  have hP := fun K => c_HasPrefix (s.drop a) [34, 34, 34] K
  have hB := fun K => c_BlockEnd s a (by omega) (by omega) K
  have hSE := fun K => c_StringEnd s a (by omega) (by omega) K
  have hbn := blkEnd_bnd s a
  have hsn := strEnd_cases s a
  generalize hR : textT s a = R
  unfold textT failT at hR
  refine ct_fn { n0 := 13, ex := [], tk := [16, 19, 22, 28, 33, 36, 37, 40, 43, 49, 54, 57, 58] } Tryz.func151 rfl (by kernel_rfl) (by kernel_rfl) rfl ?_
  simp -implicitDefEqProofs [Tryz.f151]
  refine ⟨by omega, callK_of (hP _) ?_⟩
  rw [show ([34, 34, 34] : Bs).isPrefixOf (s.drop a) = three s a from rfl]
  cases h3 : three s a with
  | true =>
    rw [h3, if_pos rfl] at hR
    simp -implicitDefEqProofs
    refine callK_of (hB _) ?_
    rcases hbn with hb | ⟨hb1, hb2⟩
    · rw [hb] at hR ⊢
      simp at hR
      subst hR
      simp -implicitDefEqProofs
      simp -implicitDefEqProofs (maxDischargeDepth := 6) [tkC, AC.le_agg]
    · obtain ⟨e, he⟩ : ∃ e : Nat, blkEnd s a = e := ⟨(blkEnd s a).toNat, by omega⟩
      rw [he] at hR hb1 hb2 ⊢
      have hn0 : ¬ ((e : Nat) : Int) < 0 := by omega
      rw [if_neg hn0, Int.toNat_natCast] at hR
      simp -implicitDefEqProofs [hn0]
      refine ⟨by omega, ?_⟩
      rw [drop_take_cut]
      have hcl := cutT_len s a e (by omega)
      refine callK_of (c_BlockText _ (by omega) _) ?_
      generalize blkText (cutT s a e) = r at *
      obtain ⟨t, ok⟩ := r
      cases ok with
      | true =>
        simp at hR; subst hR
        simp -implicitDefEqProofs
        simp -implicitDefEqProofs (maxDischargeDepth := 6) [tkC, AC.le_agg]
      | false =>
        simp at hR; subst hR
        simp -implicitDefEqProofs
        simp -implicitDefEqProofs (maxDischargeDepth := 6) [tkC, AC.le_agg]
  | false =>
    rw [h3, if_neg (by simp)] at hR
    simp -implicitDefEqProofs
    refine callK_of (hSE _) ?_
    rcases hsn with hb | ⟨e, he, hb1, hb2, _⟩
    · rw [hb] at hR ⊢
      simp at hR
      subst hR
      simp -implicitDefEqProofs
      simp -implicitDefEqProofs (maxDischargeDepth := 6) [tkC, AC.le_agg]
    · rw [he] at hR ⊢
      have hn0 : ¬ ((e : Nat) : Int) < 0 := by omega
      rw [if_neg hn0, Int.toNat_natCast] at hR
      simp -implicitDefEqProofs [hn0]
      refine ⟨by omega, ?_⟩
      rw [drop_take_cut]
      have hcl := cutT_len s a e (by omega)
      refine callK_of (c_Unescaped _ (by omega) _) ?_
      generalize unesc (cutT s a e) = r at *
      obtain ⟨t, ok⟩ := r
      cases ok with
      | true =>
        simp at hR; subst hR
        simp -implicitDefEqProofs
        simp -implicitDefEqProofs (maxDischargeDepth := 6) [tkC, AC.le_agg]
      | false =>
        simp at hR; subst hR
        simp -implicitDefEqProofs
        simp -implicitDefEqProofs (maxDischargeDepth := 6) [tkC, AC.le_agg]
theorem c_readToken (s : Bs) (a : Nat) (hs : s.length ≤ 100000) (ha : a < s.length) (K) : Ct Tryz.prog 54 [.str s, .int .i64 a] K (.tup [tkC (oneT s a).1.1, .int .i64 ((oneT s a).1.2 : Nat), .int .i64 (oneT s a).2]) K := by
  have hD := fun K => c_HasPrefix (s.drop a) [46, 46, 46] K
  have hT := fun K => c_readText s a hs (by omega) K
  have hN := fun K => c_numberEnd s a (by omega) ha K
  have hnl := numTE_le s a ha
  have hml := nameEnd_le s a (by omega)
  obtain ⟨b, hx⟩ : ∃ b, s[a]? = some b := ⟨_, List.getElem?_eq_getElem ha⟩
  have hxe : s[a]'ha = b := (List.getElem?_eq_some_iff.1 hx).2
  have hg := getB_of hx
  have w1 : IntKind.i64.wrap ((a : Int) + 1) = (a + 1 : Nat) := by rw [wrap64 (by omega) (by omega)]; rfl
  have w3 : IntKind.i64.wrap ((a : Int) + 3) = (a + 3 : Nat) := by rw [wrap64 (by omega) (by omega)]; rfl
  have e34 : (b.toNat : Int) = 34 ↔ b = 34 := u8_eq (c := 34)
  have e45 : (b.toNat : Int) = 45 ↔ b = 45 := u8_eq (c := 45)
  have hcut1 : cutT s a (a + 1) = [b] := by rw [cutT_run, drop_cons hx]; rfl
  generalize hR : oneT s a = R
  unfold oneT failT at hR
  simp only [hg] at hR
  refine ct_fn { n0 := 11, ex := [], tk := [18, 20, 25, 33, 50, 54, 60, 63, 67, 69, 70, 71, 74, 84, 92, 98, 99, 100] } Tryz.func54 rfl (by kernel_rfl) (by kernel_rfl) rfl ?_
  simp -implicitDefEqProofs [Tryz.f54, hx, hxe, ha]
  refine ⟨by omega, callK_of (hD _) ?_⟩
  rw [show ([46, 46, 46] : Bs).isPrefixOf (s.drop a) = dots3 s a from rfl]
  cases hd : dots3 s a with
  | true =>
    rw [hd, if_pos rfl] at hR
    subst hR
    simp -implicitDefEqProofs (maxDischargeDepth := 6) [tkC, AC.le_agg, w3]
  | false =>
    rw [hd, if_neg (by simp)] at hR
    simp -implicitDefEqProofs
    refine callK_of (c_IndexByte _ b.toNat (UInt8.toNat_lt b) _) ?_
    have hib := ib_sign b
    cases hsg : signB b with
    | true =>
      have h0 : 0 ≤ Lib.indexByte [33, 36, 38, 40, 41, 58, 61, 64, 91, 93, 123, 124, 125] b := hib.2 hsg
      rw [hsg] at hR
      simp at hR
      subst hR
      simp -implicitDefEqProofs [h0, w1]
      refine ⟨⟨by omega, by omega⟩, ?_⟩
      rw [show (s.take (a + 1)).drop a = [b] from hcut1]
      exact .refl
    | false =>
      have h0 : ¬ 0 ≤ Lib.indexByte [33, 36, 38, 40, 41, 58, 61, 64, 91, 93, 123, 124, 125] b := fun h => by rw [hib.1 h] at hsg; cases hsg
      have h0' : Lib.indexByte [33, 36, 38, 40, 41, 58, 61, 64, 91, 93, 123, 124, 125] b < 0 := by omega
      rw [hsg] at hR
      simp only [Bool.false_eq_true, if_false] at hR
      by_cases h34 : b = 34
      · rw [if_pos h34] at hR
        subst h34
        simp -implicitDefEqProofs [h0, h0']
        refine callK_of (hT _) ?_
        rw [hR]
        simp -implicitDefEqProofs (maxDischargeDepth := 6) [tkC, AC.le_agg]
      · rw [if_neg h34] at hR
        simp -implicitDefEqProofs [h0, h0', e34, e45, h34]
        refine callK_still (fun _ => c_isFigure b _) ?_
        by_cases hnum : b = 45 ∨ isFig b = true
        · rw [if_pos hnum] at hR
          have hnum2 : b = 45 ∨ (¬ b = 45 ∧ isFig b = true) := by
            by_cases h : b = 45
            · exact .inl h
            · exact .inr ⟨h, hnum.resolve_left h⟩
          obtain ⟨e, he⟩ : ∃ e, numTE s a = e := ⟨_, rfl⟩
          rw [he] at hnl hR hN
          have hcl := cutT_len s a e (by omega)
          have hcc : (s.take e).drop a = cutT s a e := rfl
          rcases hnum2 with hb | ⟨hb, hf⟩
          case' inl => simp -implicitDefEqProofs [hb]
          case' inr => simp -implicitDefEqProofs [hb, hf]
          all_goals
            refine callK_of (hN _) ?_
            simp -implicitDefEqProofs
            refine ⟨by omega, ?_⟩
            rw [hcc]
            refine callK_of (c_FloatOk _ _) ?_
            generalize cutT s a e = t at *
            cases hfo : floatOk t with
            | true =>
              rw [hfo, if_pos rfl] at hR
              subst hR
              simp -implicitDefEqProofs
              simp -implicitDefEqProofs (maxDischargeDepth := 6) [tkC, AC.le_agg]
            | false =>
              rw [hfo, if_neg (by simp)] at hR
              simp -implicitDefEqProofs
              refine callK_of (c_IntOk _ _) ?_
              cases hio : intOk t with
              | true =>
                rw [hio, if_pos rfl] at hR
                subst hR
                simp -implicitDefEqProofs
                simp -implicitDefEqProofs (maxDischargeDepth := 6) [tkC, AC.le_agg]
              | false =>
                rw [hio, if_neg (by simp)] at hR
                subst hR
                simp -implicitDefEqProofs
                simp -implicitDefEqProofs (maxDischargeDepth := 6) [tkC, AC.le_agg]
        · rw [if_neg hnum] at hR
          have hb : ¬ b = 45 := fun h => hnum (.inl h)
          have hf : isFig b = false := by
            cases h : isFig b with
            | false => rfl
            | true => exact absurd (.inr h) hnum
          simp -implicitDefEqProofs [hb, hf]
          refine callK_of (c_inName b _) ?_
          cases hnm : isNm b with
          | false =>
            rw [hnm] at hR
            simp at hR
            subst hR
            simp -implicitDefEqProofs
            simp -implicitDefEqProofs (maxDischargeDepth := 6) [tkC, AC.le_agg]
          | true =>
            rw [hnm, if_pos rfl] at hR
            simp -implicitDefEqProofs
            obtain ⟨I, hI⟩ : ∃ I : Nat → St → Prop, ∀ m st, I m st ↔ ∃ i, a ≤ i ∧ i ≤ s.length ∧ m = s.length - i ∧ i + runW isNm (s.drop i) = nameEnd s a ∧
              st = { env := [(0, .str s), (1, .int .i64 a), (4, .ptr 0 0 0), (5, .int .i64 0), (6, .int .i64 0), (10, .int .i64 i)], loc := [], K := [[.int .i64 0, .str [], .int .i64 0]] :: K } := ⟨_, fun _ _ => Iff.rfl⟩
            refine wC_loopI I (s.length - a) ((hI _ _).2 ⟨a, Nat.le_refl _, by omega, rfl, rfl, rfl⟩) (St.le_of (by simp) (by simp) rfl (by simp)) ?_
            intro m st hst
            obtain ⟨i, hai, hi, rfl, hp, rfl⟩ := (hI _ _).1 hst
            clear hst
            rcases Nat.lt_or_ge i s.length with hlt | hge
            · obtain ⟨c, hy⟩ : ∃ c, s[i]? = some c := ⟨_, List.getElem?_eq_getElem hlt⟩
              have hye : s[i]'hlt = c := (List.getElem?_eq_some_iff.1 hy).2
              have w4 : IntKind.i64.wrap ((i : Int) + 1) = (i + 1 : Nat) := by rw [wrap64 (by omega) (by omega)]; rfl
              have w5 : IntKind.i64.wrap ((i : Int) - a) = (i - a : Nat) := by rw [wrap64 (by omega) (by omega)]; omega
              rw [drop_cons hy, runW_cons] at hp
              simp -implicitDefEqProofs [hlt, hye, hy]
              intro _
              refine callK_still (fun _ => c_inName c _) ?_
              cases hc : isNm c with
              | true =>
                rw [hc, if_pos rfl] at hp
                simp -implicitDefEqProofs [w4]
                exact ⟨s.length - (i + 1), by omega, _, St.le_of (by simp) (by simp [St.trunc, look, mapV, mapC, killP]) rfl (by simp [St.trunc, mapC]), (hI _ _).2 ⟨i + 1, by omega, by omega, rfl, by omega, rfl⟩⟩
              | false =>
                rw [hc] at hp
                have hie : i = nameEnd s a := by simpa using hp
                rw [← hie] at hR
                by_cases h30 : 30 < i - a
                · rw [if_pos h30] at hR
                  subst hR
                  have h30' : (30 : Int) < ((i - a : Nat) : Int) := by omega
                  simp -implicitDefEqProofs [w5, h30, h30']
                  simp -implicitDefEqProofs (maxDischargeDepth := 6) [tkC, AC.le_agg]
                · rw [if_neg h30] at hR
                  subst hR
                  have h30' : ¬ (30 : Int) < ((i - a : Nat) : Int) := by omega
                  have hcc : (s.take i).drop a = cutT s a i := rfl
                  simp -implicitDefEqProofs [w5, h30, h30', hai, hcc]
                  exact ⟨by omega, .refl⟩
            · have hn : ¬ i < s.length := by omega
              have w5 : IntKind.i64.wrap ((i : Int) - a) = (i - a : Nat) := by rw [wrap64 (by omega) (by omega)]; omega
              have h0 : runW isNm [] = 0 := rfl
              rw [drop_nil hge, h0] at hp
              have hie : i = nameEnd s a := by omega
              rw [← hie] at hR
              simp -implicitDefEqProofs [hn]
              intro _
              refine callK_still (r := .bool false) (fun h => absurd h (by simp)) ?_
              by_cases h30 : 30 < i - a
              · rw [if_pos h30] at hR
                subst hR
                have h30' : (30 : Int) < ((i - a : Nat) : Int) := by omega
                simp -implicitDefEqProofs [w5, h30, h30']
                simp -implicitDefEqProofs (maxDischargeDepth := 6) [tkC, AC.le_agg]
              · rw [if_neg h30] at hR
                subst hR
                have h30' : ¬ (30 : Int) < ((i - a : Nat) : Int) := by omega
                have hcc : (s.take i).drop a = cutT s a i := rfl
                simp -implicitDefEqProofs [w5, h30, h30', hai, hcc]
                exact ⟨by omega, .refl⟩
end Go.Proofs.YtkefgpmnimpcdaaGreatDoor.Abs
/- The tokens of a text: the program. No condition. -/
set_option linter.unusedVariables false
set_option linter.unusedSimpArgs false
namespace Go.Proofs.YtkefgpmnimpcdaaGreatDoor.Abs
open Go
set_option maxHeartbeats 4000000
set_option maxRecDepth 100000
/-- Tokens' cells. -/
def tkCs : List DToken → List AC
  | [] => []
  | t :: ts => .int .i64 t.kind :: .str t.text :: .int .i64 t.at_ :: tkCs ts
theorem tkCs_app (a b : List DToken) : tkCs (a ++ b) = tkCs a ++ tkCs b := by
  induction a with
  | nil => rfl
  | cons x xs ih => simp [tkCs, ih]
theorem tkCs_len (a : List DToken) : (tkCs a).length = a.length * 3 := by
  induction a with
  | nil => rfl
  | cons x xs ih => simp [tkCs, ih]; omega
theorem tkCs_snoc (a : List DToken) (t : DToken) : tkCs (a ++ [t]) = tkCs a ++ [.int .i64 t.kind, .str t.text, .int .i64 t.at_] := by rw [tkCs_app]; rfl
theorem share_tk (a : List DToken) : shareL (tkCs a) = tkCs a := by
  rw [shareL_eq]
  induction a with
  | nil => rfl
  | cons x xs ih => simp only [tkCs, List.map_cons, ih]; rfl
theorem le_tk {ty n : Nat} {a : List DToken} : AC.le (.sl (.of ty) n (tkCs a)) (.sl .no n (tkCs a)) := le_ownK (share_tk a)
theorem bad_step (s : Bs) (n i : Nat) (h : i < s.length) : badAt (n + 1) s i = if (runeAt (s.drop i)).2 = 0 then some i else badAt n s (i + (runeAt (s.drop i)).2) := by rw [badAt, if_neg (by omega)]
theorem c_TokensOf (s : Bs) (hs : s.length ≤ 1048576) (K) : Ct Tryz.prog 11 [.str s] K (.tup [.sl (.of 104) (toks s).1.length (tkCs (toks s).1), .agg [.int .i64 (toks s).2.1, .int .i64 (toks s).2.2]]) K := by
  generalize hR : toks s = R
  unfold toks at hR
  refine ct_fn { n0 := 12, ex := [], tk := [15, 23, 29, 33, 35, 43, 58, 59, 61, 62, 65, 66, 67] } Tryz.func11 rfl (by kernel_rfl) (by kernel_rfl) rfl ?_
  simp -implicitDefEqProofs [Tryz.f11]
  intro _
  by_cases hl : 12000 < s.length
  · have hl2 : (12000 : Int) < s.length := by omega
    rw [if_pos hl] at hR
    subst hR
    have hl3 : ¬ (s.length : Int) ≤ 12000 := by omega
    simp -implicitDefEqProofs (maxDischargeDepth := 6) [hl, hl2, hl3, tkCs, AC.le_agg]
  · have hl2 : ¬ (12000 : Int) < s.length := by omega
    rw [if_neg hl] at hR
    have hl3 : (s.length : Int) ≤ 12000 := by omega
    simp -implicitDefEqProofs [hl, hl2, hl3]
    obtain ⟨I, hI⟩ : ∃ I : Nat → St → Prop, ∀ m st, I m st ↔ ∃ i n, i ≤ s.length ∧ m = s.length - i ∧ s.length - i ≤ n ∧ badAt (n + 1) s i = badAt (s.length + 1) s 0 ∧
      st = { env := [(0, .str s), (2, .sl .nil 0 []), (3, .ptr 0 0 0), (4, .int .i64 i)], loc := [], K := [[.int .i64 0, .int .i64 0]] :: K } := ⟨_, fun _ _ => Iff.rfl⟩
    refine wC_loopI I s.length ((hI _ _).2 ⟨0, s.length, by omega, rfl, by omega, rfl, rfl⟩) (St.le_of (by simp) (by simp) rfl (by simp)) ?_
    intro m st hst
    obtain ⟨i, n, hi, rfl, hn, hp, rfl⟩ := (hI _ _).1 hst
    clear hst
    rcases Nat.lt_or_ge i s.length with hlt | hge
    · rw [bad_step s n i hlt] at hp
      have hle := runeAt_le (l := s.drop i)
      rw [List.length_drop] at hle
      simp -implicitDefEqProofs [hlt]
      intro _
      refine callK_of (c_RuneAt s i _ (by omega) (by omega)) ?_
      generalize runeAt (s.drop i) = r at *
      by_cases h0 : r.2 = 0
      · rw [if_pos h0] at hp
        rw [← hp] at hR
        subst hR
        simp -implicitDefEqProofs [h0]
        simp -implicitDefEqProofs (maxDischargeDepth := 6) [tkCs, AC.le_agg]
      · rw [if_neg h0] at hp
        have w1 : IntKind.i64.wrap ((i : Int) + r.2) = (i + r.2 : Nat) := by rw [wrap64 (by omega) (by omega)]; rfl
        simp -implicitDefEqProofs [h0, w1]
        obtain ⟨n, rfl⟩ : ∃ n', n = n' + 1 := ⟨n - 1, by omega⟩
        exact ⟨s.length - (i + r.2), by omega, _, St.le_of (by simp) (by simp [St.trunc, look, mapV, mapC, killP]) rfl (by simp [St.trunc, mapC]), (hI _ _).2 ⟨i + r.2, n, by omega, rfl, by omega, hp, rfl⟩⟩
    · have hn2 : ¬ i < s.length := by omega
      rw [badAt, if_pos hge] at hp
      rw [← hp] at hR
      simp -implicitDefEqProofs [hn2]
      clear hI hp
      clear I
      intros
      refine callK_of (c_skip s 0 (by omega) (by omega) _) ?_
      have hp0 := skipP_le s 0 (by omega)
      simp -implicitDefEqProofs
      obtain ⟨J, hJ⟩ : ∃ J : Nat → St → Prop, ∀ m st, J m st ↔ ∃ i n acc, i ≤ s.length ∧ m = s.length - i ∧ s.length - i ≤ n ∧ acc.length ≤ 2500 ∧ toksG (n + 1) s i acc = R ∧
        st = { env := [(0, .str s), (2, .sl .nil 0 []), (3, .ptr 0 0 0), (7, .sl (.of 104) acc.length (tkCs acc)), (8, .int .i64 i)], loc := [], K := [[.int .i64 0, .int .i64 0]] :: K } := ⟨_, fun _ _ => Iff.rfl⟩
      refine wC_loopI J (s.length - skipP s 0) ((hJ _ _).2 ⟨skipP s 0, s.length, [], by omega, rfl, by omega, by simp, hR, rfl⟩) (St.le_of (by simp) (by simp [tkCs]) rfl (by simp)) ?_
      clear hi hn hge hn2
      clear i n
      intro m st hst
      obtain ⟨i, n, acc, hi, rfl, hn, hacc, hp, rfl⟩ := (hJ _ _).1 hst
      clear hst
      have hcl := tkCs_len acc
      rw [toksG] at hp
      rcases Nat.lt_or_ge i s.length with hlt | hge
      · rw [if_neg (by omega)] at hp
        have hend := oneT_end s i hlt
        simp -implicitDefEqProofs [hlt]
        intro _
        refine callK_of (c_readToken s i (by omega) hlt _) ?_
        generalize oneT s i = r at *
        obtain ⟨⟨t, te⟩, tc⟩ := r
        simp only at hp hend ⊢
        by_cases hc0 : tc = 0
        · subst hc0
          have hend := hend rfl
          rw [if_pos rfl] at hp
          by_cases h25 : acc.length = 2500
          · rw [if_pos h25] at hp
            subst hp
            simp -implicitDefEqProofs (maxDischargeDepth := 6) [h25, tkC, tkCs, AC.le_agg]
          · rw [if_neg h25] at hp
            have h25' : ¬ (acc.length : Int) = 2500 := by omega
            obtain ⟨n, rfl⟩ : ∃ n', n = n' + 1 := ⟨n - 1, by omega⟩
            have hpl := skipP_le s te hend.2
            simp -implicitDefEqProofs [h25, h25', tkC]
            refine fun _ => ⟨by unfold maxLen; omega, by omega, callK_of (c_skip s te (by omega) hend.2 _) ?_⟩
            simp -implicitDefEqProofs
            exact ⟨s.length - skipP s te, by omega, _, St.le_of (by simp) (by simp [St.trunc, look, mapV, mapC, killP, tkCs_snoc]) rfl (by simp [St.trunc, mapC]), (hJ _ _).2 ⟨skipP s te, n, acc ++ [t], hpl.2, rfl, by omega, by simp; omega, hp, rfl⟩⟩
        · rw [if_neg hc0] at hp
          subst hp
          simp -implicitDefEqProofs (maxDischargeDepth := 6) [hc0, tkC, tkCs, AC.le_agg]
      · rw [if_pos hge] at hp
        have hn2 : ¬ i < s.length := by omega
        subst hp
        simp -implicitDefEqProofs (maxDischargeDepth := 6) [hn2, AC.le_agg]
end Go.Proofs.YtkefgpmnimpcdaaGreatDoor.Abs
