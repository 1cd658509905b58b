/- Apart, ShortText, Shorten of both sides; FnExactShorten's contract. No condition. -/
import Derived.Test.YtkefgpmnimpcdaaGreatDoorShA
import Derived.Test.YtkefgpmnimpcdaaGreatDoorFam
import Derived.Test.YtkefgpmnimpcdaaGreatDoorRdA
set_option linter.unusedVariables false
set_option linter.unusedSimpArgs false
namespace Go.Proofs.YtkefgpmnimpcdaaGreatDoor.Abs
open Go
set_option maxHeartbeats 4000000
set_option maxRecDepth 100000
theorem c_Apart (a b : DToken) (K) : Ct Tryz.prog 198 [tkC a, tkC b] K (.bool (aparT a b)) K := by
  have hA := fun K => c_word a K
  have hB := fun K => c_word b K
  have hN := fun K => c_isNumber a K
  generalize hR : aparT a b = R
  unfold aparT at hR
  generalize wordT a = wa at *
  generalize wordT b = wb at *
  generalize isNumT a = na at *
  obtain ⟨ka, xa, aa⟩ := a
  obtain ⟨kb, xb, ab⟩ := b
  unfold tkC at *
  simp only at hR
  refine ct_fn { n0 := 6, ex := [], tk := [9, 13, 17] } Tryz.func198 rfl (by kernel_rfl) (by kernel_rfl) rfl ?_
  simp -implicitDefEqProofs [Tryz.f198]
  refine callK_of (hA _) ?_
  cases wa with
  | true =>
    simp -implicitDefEqProofs
    refine callK_still (fun _ => hB _) ?_
    cases wb with
    | true =>
      simp -implicitDefEqProofs
      rw [← hR]; rfl
    | false =>
      simp -implicitDefEqProofs
      refine callK_of (hN _) ?_
      cases na with
      | true =>
        by_cases h1 : kb = 1
        · by_cases h2 : xb = [46, 46, 46]
          · simp -implicitDefEqProofs [h1, h2]
            rw [← hR, h1, h2]; simp
          · simp -implicitDefEqProofs [h1, h2]
            rw [← hR, h1]; simp [h2]
        · simp -implicitDefEqProofs [h1]
          rw [← hR]; simp [h1]
      | false =>
        simp -implicitDefEqProofs
        rw [← hR]; simp
  | false =>
    simp -implicitDefEqProofs
    refine callK_still (r := .bool false) (fun h => absurd h (by simp)) ?_
    simp -implicitDefEqProofs
    refine callK_of (hN _) ?_
    cases na with
    | true =>
      by_cases h1 : kb = 1
      · by_cases h2 : xb = [46, 46, 46]
        · simp -implicitDefEqProofs [h1, h2]
          rw [← hR, h1, h2]; simp
        · simp -implicitDefEqProofs [h1, h2]
          rw [← hR, h1]; simp [h2]
      · simp -implicitDefEqProofs [h1]
        rw [← hR]; simp [h1]
    | false =>
      simp -implicitDefEqProofs
      rw [← hR]; simp
theorem c_ApartS (a b : DToken) (K) : Ct Tryz.prog 195 [tkC a, tkC b] K (.bool (aparT a b)) K := by
  have hA := fun K => c_l15Wordy a K
  have hB := fun K => c_l15Wordy b K
  generalize hR : aparT a b = R
  unfold aparT isNumT at hR
  generalize wordT a = wa at *
  generalize wordT b = wb at *
  obtain ⟨ka, xa, aa⟩ := a
  obtain ⟨kb, xb, ab⟩ := b
  unfold tkC at *
  simp only at hR
  refine ct_fn { n0 := 5, ex := [], tk := [6, 9] } Tryz.func195 rfl (by kernel_rfl) (by kernel_rfl) rfl ?_
  simp -implicitDefEqProofs [Tryz.f195]
  refine callK_of (hA _) ?_
  cases wa with
  | true =>
    simp -implicitDefEqProofs
    refine callK_still (fun _ => hB _) ?_
    cases wb with
    | true =>
      simp -implicitDefEqProofs
      rw [← hR]; rfl
    | false =>
      simp -implicitDefEqProofs
      refine ⟨fun h5 h6 => by rw [← hR, h5, h6]; simp, fun h => ?_⟩
      rw [← hR]
      by_cases h5 : ka = 5
      · simp [h5, h h5]
      · simp [h5, Bool.and_assoc]
  | false =>
    simp -implicitDefEqProofs
    refine callK_still (r := .bool false) (fun h => absurd h (by simp)) ?_
    simp -implicitDefEqProofs
    refine ⟨fun h5 h6 => by rw [← hR, h5, h6]; simp, fun h => ?_⟩
    rw [← hR]
    by_cases h5 : ka = 5
    · simp [h5, h h5]
    · simp [h5, Bool.and_assoc]
/-- What stands between two tokens. -/
def sepT (p : Option DToken) (t : DToken) : Bs := match p with
  | some q => if aparT q t then [32] else []
  | none => []
theorem sepT_le (p : Option DToken) (t : DToken) : (sepT p t).length ≤ 1 := by
  unfold sepT; split
  · split <;> simp
  · simp
/-- The shortest text of tokens, behind what stands. -/
def shortL : Bs → Option DToken → List DToken → Option Bs
  | out, _, [] => some out
  | out, p, t :: l => if tokOk t then shortL (out ++ sepT p t ++ tokTx t) (some t) l else none
def cutS (o : Option Bs) : Bs := match o with
  | none => []
  | some o => if 12000 < o.length then [] else o
def shortT (l : List DToken) : Bs := if 2500 < l.length then [] else cutS (shortL [] none l)
theorem shortL_le : ∀ (l : List DToken) (out : Bs) (p : Option DToken) (o : Bs), shortL out p l = some o → out.length ≤ o.length := by
  intro l; induction l with
  | nil => intro out p o h; cases h; exact Nat.le_refl _
  | cons t l ih =>
    intro out p o h
    rw [shortL] at h
    split at h
    · have := ih _ _ _ h
      simp only [List.length_append] at this
      omega
    · cases h
theorem cutS_long {l : List DToken} {out : Bs} {p : Option DToken} (h : 12000 < out.length) : cutS (shortL out p l) = [] := by
  cases hs : shortL out p l with
  | none => rfl
  | some o => have := shortL_le l out p o hs; unfold cutS; simp only; rw [if_pos (by omega)]
theorem cutT_le2 (s : Bs) (a e : Nat) : (cutT s a e).length ≤ e - a := by
  unfold cutT; rw [List.length_drop, List.length_take]; omega
theorem unesc_le2 (s : Bs) : (unesc s).1.length ≤ 200 := by
  unfold unesc; split
  · simp
  · split
    · simp
    · split
      · simp
      · simp only; omega
theorem blkText_len (s : Bs) : (blkText s).1.length ≤ 200 := by
  unfold blkText; split
  · simp
  · split
    · simp
    · split
      · simp
      · simp only; omega
theorem textT_len (s : Bs) (a : Nat) : (textT s a).1.1.text.length ≤ 200 := by
  unfold textT; split
  · split
    · simp [failT]
    · split
      · exact blkText_len _
      · simp [failT]
  · split
    · simp [failT]
    · split
      · exact unesc_le2 _
      · simp [failT]
theorem oneT_len (s : Bs) (a : Nat) : (oneT s a).1.1.text.length ≤ 200 := by
  unfold oneT; split
  · simp
  · simp only
    split
    · simp
    · split
      · exact textT_len _ _
      · split
        · split
          · next h => have := floatOk_len h; simp only; omega
          · split
            · next h => have := intOk_len h; simp only; omega
            · simp [failT]
        · split
          · split
            · simp [failT]
            · have := cutT_le2 s a (nameEnd s a); simp only; omega
          · simp [failT]
theorem toksG_text : ∀ (n : Nat) (s : Bs) (i : Nat) (acc : List DToken), (∀ t ∈ acc, t.text.length ≤ 200) → ∀ t ∈ (toksG n s i acc).1, t.text.length ≤ 200 := by
  intro n; induction n with
  | zero => intro s i acc h; exact h
  | succ n ih =>
    intro s i acc h
    rw [toksG]
    split
    · exact h
    · split
      · split
        · simp
        · refine ih _ _ _ fun t ht => ?_
          rcases List.mem_append.1 ht with ht | ht
          · exact h t ht
          · rw [List.mem_singleton] at ht; subst ht; exact oneT_len _ _
      · simp
theorem toks_text (s : Bs) : ∀ t ∈ (toks s).1, t.text.length ≤ 200 := by
  unfold toks
  split
  · simp
  · split
    · simp
    · exact toksG_text _ _ _ _ (by simp)
def prevT (l : List DToken) (i : Nat) : Option DToken := if i = 0 then none else l[i - 1]?
theorem byteCells_eq (l : List UInt8) : byteCells l = encB l := rfl
theorem c_ShortText (l : List DToken) (K) : Ct Tryz.prog 106 [.sl .no l.length (tkCs l)] K (.str (shortT l)) K := by
  have hcl := tkCs_len l
  generalize hR : shortT l = R
  unfold shortT at hR
  refine ct_fn { n0 := 6, ex := [10, 11, 12], tk := [9, 18, 29, 31, 32, 33, 34, 36, 37] } Tryz.func106 rfl (by kernel_rfl) (by kernel_rfl) rfl ?_
  simp -implicitDefEqProofs [Tryz.f106]
  by_cases hl : 2500 < l.length
  · have hl2 : (2500 : Int) < l.length := by omega
    have hl3 : ¬ (l.length : Int) ≤ 2500 := by omega
    rw [if_pos hl] at hR
    simp -implicitDefEqProofs [hl, hl2, hl3]
    exact fun _ => hR.symm
  · have hl2 : ¬ (2500 : Int) < l.length := by omega
    have hl3 : (l.length : Int) ≤ 2500 := by omega
    rw [if_neg hl] at hR
    simp -implicitDefEqProofs [hl, hl2, hl3]
    intros
    obtain ⟨I, hI⟩ : ∃ I : Nat → St → Prop, ∀ m st, I m st ↔ ∃ i out, i ≤ l.length ∧ m = l.length - i ∧ out.length ≤ i * 1203 ∧ cutS (shortL out (prevT l i) (l.drop i)) = R ∧
      st = { env := [(0, .sl .no l.length (tkCs l)), (2, .str []), (3, .sl (.of 5) out.length (encB out)), (10, .sl .no l.length (tkCs l)), (11, .int .i64 l.length), (12, .int .i64 i)], loc := [], K := [] :: K } := ⟨_, fun _ _ => Iff.rfl⟩
    refine wC_loopI I l.length ((hI _ _).2 ⟨0, [], by omega, rfl, by simp, hR, rfl⟩) (St.le_of (by simp) (by simp) rfl (by simp)) ?_
    intro m st hst
    obtain ⟨i, out, hi, rfl, ho, hp, rfl⟩ := (hI _ _).1 hst
    clear hst
    rcases Nat.lt_or_ge i l.length with hlt | hge
    · obtain ⟨t, ht⟩ : ∃ t, l[i]? = some t := ⟨_, List.getElem?_eq_getElem hlt⟩
      have ha := tk_at ht
      have hT := fun K => c_TokenOk t K
      have hX := fun K => c_TokenText t K
      have hxl := @tokTx_len t
      have w1 : IntKind.i64.wrap ((i : Int) + 1) = (i + 1 : Nat) := by rw [wrap64 (by omega) (by omega)]; rfl
      rw [List.drop_eq_getElem_cons hlt, (List.getElem?_eq_some_iff.1 ht).2, shortL] at hp
      have hA := fun q K => c_Apart q t K
      generalize tokOk t = ok at *
      generalize tokTx t = tx at *
      unfold tkC at hT hX
      simp -implicitDefEqProofs [hlt, ha, hcl]
      intros
      refine callK_of (hT _) ?_
      cases ok with
      | false =>
        simp -implicitDefEqProofs
        simpa [cutS] using hp.symm
      | true =>
        have hxl := hxl rfl
        rw [if_pos rfl] at hp
        cases i with
        | zero =>
          have w0 : IntKind.i64.wrap 1 = 1 := by decide
          have hp : cutS (shortL (out ++ tx) (some t) (l.drop 1)) = R := by rw [← hp]; simp [prevT, sepT]
          simp -implicitDefEqProofs
          refine wRun_draw true rfl (by decide +kernel) ?_
          simp -implicitDefEqProofs [hcl]
          refine callK_still (r := .bool false) (fun h => absurd h (by simp)) ?_
          simp -implicitDefEqProofs
          refine callK_of (hX _) ?_
          simp -implicitDefEqProofs [w0]
          refine ⟨by unfold maxLen; omega, by omega, ?_⟩
          exact ⟨l.length - 1, by omega, _, St.le_of (by simp) (by simp [St.trunc, look, mapV, mapC, killP, byteCells_eq, Nat.add_assoc, Nat.add_comm 1, Int.add_assoc]) rfl (by simp [St.trunc, mapC]), (hI _ _).2 ⟨1, out ++ tx, by omega, rfl, by rw [List.length_append]; omega, by simpa [prevT, ht] using hp, rfl⟩⟩
        | succ j =>
          obtain ⟨q, hq⟩ : ∃ q, l[j]? = some q := ⟨_, List.getElem?_eq_getElem (by omega)⟩
          have hqa := tk_at hq
          have hjl : j < l.length := by omega
          have hA := fun K => hA q K
          have hp : cutS (shortL (out ++ (if aparT q t then [32] else []) ++ tx) (some t) (l.drop (j + 1 + 1))) = R := by rw [← hp]; simp [prevT, sepT, hq]
          generalize aparT q t = ap at *
          have w2 : IntKind.i64.wrap (j : Int) = (j : Nat) := by rw [wrap64 (by omega) (by omega)]
          have w3 : IntKind.i64.wrap ((j : Int) + 1 + 1) = (j : Int) + 1 + 1 := by rw [wrap64 (by omega) (by omega)]
          unfold tkC at hA
          simp -implicitDefEqProofs
          refine wRun_draw true rfl (by decide +kernel) ?_
          simp -implicitDefEqProofs [w2, hqa, hcl, hjl]
          refine callK_still (fun _ => hA _) ?_
          cases ap with
          | true =>
            simp -implicitDefEqProofs
            refine ⟨by unfold maxLen; omega, by omega, ?_⟩
            refine callK_of (hX _) ?_
            simp -implicitDefEqProofs [w3]
            refine ⟨by unfold maxLen; omega, by omega, ?_⟩
            exact ⟨l.length - (j + 1 + 1), by omega, _, St.le_of (by simp) (by simp [St.trunc, look, mapV, mapC, killP, byteCells_eq, Nat.add_assoc, Nat.add_comm 1, Int.add_assoc]) rfl (by simp [St.trunc, mapC]), (hI _ _).2 ⟨j + 1 + 1, out ++ [32] ++ tx, by omega, rfl, by simp only [List.length_append, List.length_cons, List.length_nil]; omega, by simpa [prevT, ht] using hp, rfl⟩⟩
          | false =>
            simp -implicitDefEqProofs
            refine callK_of (hX _) ?_
            simp -implicitDefEqProofs [w3]
            refine ⟨by unfold maxLen; omega, by omega, ?_⟩
            exact ⟨l.length - (j + 1 + 1), by omega, _, St.le_of (by simp) (by simp [St.trunc, look, mapV, mapC, killP, byteCells_eq, Nat.add_assoc, Nat.add_comm 1, Int.add_assoc]) rfl (by simp [St.trunc, mapC]), (hI _ _).2 ⟨j + 1 + 1, out ++ tx, by omega, rfl, by rw [List.length_append]; omega, by simpa [prevT, ht] using hp, rfl⟩⟩
    · have hn : ¬ i < l.length := by omega
      rw [List.drop_of_length_le hge, shortL] at hp
      simp -implicitDefEqProofs [hn]
      intro hmx
      rw [← hp]
      refine ⟨fun h => ?_, fun h => ⟨hmx, ?_⟩⟩
      · unfold cutS; simp only; rw [if_pos (by omega)]
      · unfold cutS; simp only; rw [if_neg (by omega)]
theorem c_ShortTextS (l : List DToken) (hb : ∀ t ∈ l, t.text.length ≤ 1000000000) (K) : Ct Tryz.prog 105 [.sl .no l.length (tkCs l)] K (.str (shortT l)) K := by
  have hcl := tkCs_len l
  generalize hR : shortT l = R
  unfold shortT at hR
  refine ct_fn { n0 := 5, ex := [], tk := [8, 19, 33, 35, 36, 37, 38, 43, 44] } Tryz.func105 rfl (by kernel_rfl) (by kernel_rfl) rfl ?_
  simp -implicitDefEqProofs [Tryz.f105]
  by_cases hl : 2500 < l.length
  · have hl2 : (2500 : Int) < l.length := by omega
    have hl3 : ¬ (l.length : Int) ≤ 2500 := by omega
    rw [if_pos hl] at hR
    simp -implicitDefEqProofs [hl, hl2, hl3]
    exact fun _ => hR.symm
  · have hl2 : ¬ (2500 : Int) < l.length := by omega
    have hl3 : (l.length : Int) ≤ 2500 := by omega
    rw [if_neg hl] at hR
    simp -implicitDefEqProofs [hl, hl2, hl3]
    intros
    obtain ⟨I, hI⟩ : ∃ I : Nat → St → Prop, ∀ m st, I m st ↔ ∃ i out, i ≤ l.length ∧ m = l.length - i ∧ out.length ≤ 12000 ∧ cutS (shortL out (prevT l i) (l.drop i)) = R ∧
      st = { env := [(0, .sl .no l.length (tkCs l)), (2, .str []), (3, .sl (.of 5) out.length (encB out)), (4, .int .i64 i)], loc := [], K := [] :: K } := ⟨_, fun _ _ => Iff.rfl⟩
    refine wC_loopI I l.length ((hI _ _).2 ⟨0, [], by omega, rfl, by simp, hR, rfl⟩) (St.le_of (by simp) (by simp) rfl (by simp)) ?_
    intro m st hst
    obtain ⟨i, out, hi, rfl, ho, hp, rfl⟩ := (hI _ _).1 hst
    clear hst
    rcases Nat.lt_or_ge i l.length with hlt | hge
    · obtain ⟨t, ht⟩ : ∃ t, l[i]? = some t := ⟨_, List.getElem?_eq_getElem hlt⟩
      have ha := tk_at ht
      have htb := hb t (List.mem_of_getElem? ht)
      have hT := fun K => c_TokenOkS t K htb
      have hX := fun K => c_TokenTextS t K htb
      have hxl := @tokTx_len t
      have w1 : IntKind.i64.wrap ((i : Int) + 1) = (i + 1 : Nat) := by rw [wrap64 (by omega) (by omega)]; rfl
      rw [List.drop_eq_getElem_cons hlt, (List.getElem?_eq_some_iff.1 ht).2, shortL] at hp
      have hA := fun q K => c_ApartS q t K
      generalize tokOk t = ok at *
      generalize tokTx t = tx at *
      unfold tkC at hT hX
      simp -implicitDefEqProofs [hlt, ha, hcl]
      intros
      refine callK_of (hT _) ?_
      cases ok with
      | false =>
        simp -implicitDefEqProofs
        simpa [cutS] using hp.symm
      | true =>
        have hxl := hxl rfl
        rw [if_pos rfl] at hp
        cases i with
        | zero =>
          have w0 : IntKind.i64.wrap 1 = 1 := by decide
          have ha0 : (tkCs l).take 3 = [.int .i64 t.kind, .str t.text, .int .i64 t.at_] := by simpa using ha
          have hl31 : 3 ≤ min 3 (tkCs l).length := by omega
          have hp : cutS (shortL (out ++ tx) (some t) (l.drop 1)) = R := by rw [← hp]; simp [prevT, sepT]
          simp -implicitDefEqProofs
          refine wRun_draw true rfl (by decide +kernel) ?_
          simp -implicitDefEqProofs [hcl, ha0, hlt]
          refine callK_still (r := .bool false) (fun h => absurd h (by simp)) ?_
          simp -implicitDefEqProofs [hcl, ha0, hlt]
          refine callK_of (hX _) ?_
          simp -implicitDefEqProofs [w0]
          refine ⟨by unfold maxLen; omega, by omega, ?_⟩
          intro hmx2
          refine ⟨fun h => by rw [← hp]; exact cutS_long (by simp only [List.length_append, List.length_cons, List.length_nil]; omega), fun h => ?_⟩
          exact ⟨l.length - 1, by omega, _, St.le_of (by simp) (by simp [St.trunc, look, mapV, mapC, killP, byteCells_eq, Nat.add_assoc, Nat.add_comm 1, Int.add_assoc]) rfl (by simp [St.trunc, mapC]), (hI _ _).2 ⟨1, out ++ tx, by omega, rfl, by rw [List.length_append]; omega, by simpa [prevT, ht] using hp, rfl⟩⟩
        | succ j =>
          obtain ⟨q, hq⟩ : ∃ q, l[j]? = some q := ⟨_, List.getElem?_eq_getElem (by omega)⟩
          have hqa := tk_at hq
          have hjl : j < l.length := by omega
          have hA := fun K => hA q K
          have hp : cutS (shortL (out ++ (if aparT q t then [32] else []) ++ tx) (some t) (l.drop (j + 1 + 1))) = R := by rw [← hp]; simp [prevT, sepT, hq]
          generalize aparT q t = ap at *
          have w2 : IntKind.i64.wrap (j : Int) = (j : Nat) := by rw [wrap64 (by omega) (by omega)]
          have w3 : IntKind.i64.wrap ((j : Int) + 1 + 1) = (j : Int) + 1 + 1 := by rw [wrap64 (by omega) (by omega)]
          have hlt2 : (j : Int) + 1 < l.length := by omega
          have hj0 : (0 : Int) ≤ (j : Int) + 1 := by omega
          unfold tkC at hA
          simp -implicitDefEqProofs
          refine wRun_draw true rfl (by decide +kernel) ?_
          simp -implicitDefEqProofs [w2, hqa, hcl, hjl, ha, hlt, hlt2, hj0]
          refine callK_still (fun _ => hA _) ?_
          cases ap with
          | true =>
            simp only [if_true] at hp
            simp -implicitDefEqProofs [w2, hqa, hcl, hjl, ha, hlt, hlt2, hj0]
            refine ⟨by unfold maxLen; omega, by omega, ?_⟩
            refine callK_of (hX _) ?_
            simp -implicitDefEqProofs [w3]
            refine ⟨by unfold maxLen; omega, by omega, ?_⟩
            intro hmx2
            refine ⟨fun h => by rw [← hp]; exact cutS_long (by simp only [List.length_append, List.length_cons, List.length_nil]; omega), fun h => ?_⟩
            exact ⟨l.length - (j + 1 + 1), by omega, _, St.le_of (by simp) (by simp [St.trunc, look, mapV, mapC, killP, byteCells_eq, Nat.add_assoc, Nat.add_comm 1, Int.add_assoc]) rfl (by simp [St.trunc, mapC]), (hI _ _).2 ⟨j + 1 + 1, out ++ [32] ++ tx, by omega, rfl, by simp only [List.length_append, List.length_cons, List.length_nil]; omega, by simpa [prevT, ht] using hp, rfl⟩⟩
          | false =>
            simp -implicitDefEqProofs [w2, hqa, hcl, hjl, ha, hlt, hlt2, hj0]
            refine callK_of (hX _) ?_
            simp -implicitDefEqProofs [w3]
            refine ⟨by unfold maxLen; omega, by omega, ?_⟩
            intro hmx2
            refine ⟨fun h => by rw [← hp]; exact cutS_long (by simp only [List.length_append, List.length_cons, List.length_nil]; omega), fun h => ?_⟩
            exact ⟨l.length - (j + 1 + 1), by omega, _, St.le_of (by simp) (by simp [St.trunc, look, mapV, mapC, killP, byteCells_eq, Nat.add_assoc, Nat.add_comm 1, Int.add_assoc]) rfl (by simp [St.trunc, mapC]), (hI _ _).2 ⟨j + 1 + 1, out ++ tx, by omega, rfl, by rw [List.length_append]; omega, by simpa [prevT, ht] using hp, rfl⟩⟩
    · have hn : ¬ i < l.length := by omega
      rw [List.drop_of_length_le hge, shortL] at hp
      simp -implicitDefEqProofs [hn]
      intro hmx
      rw [← hp]
      refine ⟨by unfold maxLen; omega, ?_⟩
      unfold cutS; simp only; rw [if_neg (by omega)]
/-- What Shorten yields. -/
def shorter (s : Bs) : Bs × Int × Int := if (toks s).2.1 = 0 then (shortT (toks s).1, 0, 0) else ([], (toks s).2.1, (toks s).2.2)
theorem c_Shorten (s : Bs) (hs : s.length ≤ 1048576) (K) : Ct Tryz.prog 42 [.str s] K (.tup [.str (shorter s).1, .agg [.int .i64 (shorter s).2.1, .int .i64 (shorter s).2.2]]) K := by
  have hT := fun K => c_TokensOf s hs K
  generalize hR : shorter s = R
  unfold shorter at hR
  generalize toks s = z at *
  obtain ⟨ts, c, a⟩ := z
  simp only at hR hT
  refine ct_fn { n0 := 6, ex := [], tk := [8, 14, 16, 17] } Tryz.func42 rfl (by kernel_rfl) (by kernel_rfl) rfl ?_
  simp -implicitDefEqProofs [Tryz.f42]
  refine callK_of (hT _) ?_
  by_cases hc : c = 0
  · rw [if_pos hc] at hR
    subst hR
    simp -implicitDefEqProofs [hc, share_tk]
    refine callK_of (c_ShortText ts _) ?_
    simp -implicitDefEqProofs (maxDischargeDepth := 6) [AC.le_agg]
  · rw [if_neg hc] at hR
    subst hR
    simp -implicitDefEqProofs [hc]
    refine wRun_draw true rfl (by decide +kernel) ?_
    simp -implicitDefEqProofs (maxDischargeDepth := 6) [AC.le_agg]
theorem c_ShortenS (s : Bs) (hs : s.length ≤ 1048576) (K) : Ct Tryz.prog 41 [.str s] K (.tup [.str (shorter s).1, .agg [.int .i64 (shorter s).2.1, .int .i64 (shorter s).2.2]]) K := by
  have hT := fun K => c_TokensOfS s hs K
  have hb : ∀ t ∈ (toks s).1, t.text.length ≤ 1000000000 := fun t ht => by have := toks_text s t ht; omega
  generalize hR : shorter s = R
  unfold shorter at hR
  generalize toks s = z at *
  obtain ⟨ts, c, a⟩ := z
  simp only at hR hT hb
  refine ct_fn { n0 := 6, ex := [], tk := [8, 14, 16, 17] } Tryz.func41 rfl (by kernel_rfl) (by kernel_rfl) rfl ?_
  simp -implicitDefEqProofs [Tryz.f41]
  refine callK_of (hT _) ?_
  by_cases hc : c = 0
  · rw [if_pos hc] at hR
    subst hR
    simp -implicitDefEqProofs [hc, share_tk]
    refine callK_of (c_ShortTextS ts hb _) ?_
    simp -implicitDefEqProofs (maxDischargeDepth := 6) [AC.le_agg]
  · rw [if_neg hc] at hR
    subst hR
    simp -implicitDefEqProofs [hc]
    refine wRun_draw true rfl (by decide +kernel) ?_
    simp -implicitDefEqProofs (maxDischargeDepth := 6) [AC.le_agg]
theorem c_law (a0 : Bs) : Ct Tryz.prog 8 [.str a0] [] (.bool true) [] := by
  refine ct_fn { n0 := 7, ex := [], tk := [12, 17, 26] } Tryz.func8 rfl (by kernel_rfl) (by kernel_rfl) rfl ?_
  simp -implicitDefEqProofs [Tryz.f8]
  intro hm hl
  have hI := fun K => c_Shorten a0 (by omega) K
  have hS := fun K => c_ShortenS a0 (by omega) K
  generalize shorter a0 = z at *
  obtain ⟨o, c, a⟩ := z
  have hF : ∀ K, Ct Tryz.prog 13 [.agg [.int .i64 c, .int .i64 a], .agg [.int .i64 c, .int .i64 a]] K (.bool true) K := fun K => by
    have := c_eqFault ⟨c, a⟩ ⟨c, a⟩ K
    rw [eqB_self] at this
    simpa [tFault, encL, encT] using this
  refine callK_of (hS _) ?_
  simp -implicitDefEqProofs
  refine callK_of (hI _) ?_
  simp -implicitDefEqProofs
  refine callK_still (fun _ => hF _) ?_
  simp -implicitDefEqProofs
end Go.Proofs.YtkefgpmnimpcdaaGreatDoor.Abs
