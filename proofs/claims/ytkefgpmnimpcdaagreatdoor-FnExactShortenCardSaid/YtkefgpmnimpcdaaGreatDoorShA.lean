/- Tokens that may be, their texts, and what must stand between them. No condition. -/
import Derived.Test.YtkefgpmnimpcdaaGreatDoorTkM
import Derived.Test.YtkefgpmnimpcdaaGreatDoorLays3
import Derived.Shelf.Strings.Search3
import Derived.Lib.IndexMore
set_option linter.unusedVariables false
set_option linter.unusedSimpArgs false
namespace Go.Proofs.YtkefgpmnimpcdaaGreatDoor.Abs
open Go Go.RowKit
set_option maxHeartbeats 4000000
set_option maxRecDepth 100000
theorem c_Contains (s : Bs) (d : Bs) (hs : s.length < 4294967281) (K) : Ct Tryz.prog 287 [.str s, .str d] K (.bool (Lib.contains s d)) K := by
  refine ct_lib ⟨_, Tryz.func287, rfl, by kernel_rfl⟩ rfl ?_ K
  intro w Pr vals ht h0
  obtain ⟨b, _, rfl, rfl, hl, h1⟩ := h0.str_inv
  obtain ⟨e, _, rfl, rfl, hl2, h2⟩ := h1.str_inv
  obtain ⟨rfl, _⟩ := h2.nil_inv
  obtain ⟨m, hm⟩ := (ht.2 _ List.mem_cons_self).2
  refine (Any.strings_Contains Tryz.lays144 b e m w (by rw [str_size]; exact hs) hm).mono ?_
  rintro e w' ⟨rfl, rfl⟩
  exact ⟨_, rfl, fun w Pr bl => .bool, Below.refl _ _⟩
theorem contains_sign (b : UInt8) : Lib.contains [33, 36, 38, 40, 41, 58, 61, 64, 91, 93, 123, 124, 125] [b] = signB b :=
  u8_all (p := fun b => Lib.contains [33, 36, 38, 40, 41, 58, 61, 64, 91, 93, 123, 124, 125] [b] = signB b) (by decide) b
theorem c_SignOk (s : Bs) (K) : Ct Tryz.prog 252 [.str s] K (.bool (signOk s)) K := by
  generalize hR : signOk s = R
  unfold signOk at hR
  refine ct_fn { n0 := 3, ex := [], tk := [11] } Tryz.func252 rfl (by kernel_rfl) (by kernel_rfl) rfl ?_
  simp -implicitDefEqProofs [Tryz.f252]
  by_cases h1 : s = [46, 46, 46]
  · subst h1
    simp -implicitDefEqProofs
    refine callK_still (r := .bool false) (fun h => absurd h (by simp)) ?_
    simp -implicitDefEqProofs
    rw [← hR]; rfl
  · have hd : decide (s = [46, 46, 46]) = false := decide_eq_false h1
    rw [hd] at hR
    match s, h1, hR with
    | [b], h1, hR =>
      simp -implicitDefEqProofs
      intros
      refine callK_still (fun _ => c_Contains [33, 36, 38, 40, 41, 58, 61, 64, 91, 93, 123, 124, 125] [b] (by decide) _) ?_
      simp -implicitDefEqProofs [contains_sign]
      rw [← hR]; simp
    | [], h1, hR =>
      simp -implicitDefEqProofs
      refine callK_still (r := .bool false) (fun h => absurd h (by simp)) ?_
      simp -implicitDefEqProofs
      simpa using hR
    | a :: b :: r, h1, hR =>
      have h2 : ¬ ((a :: b :: r).length : Int) = 1 := by simp only [List.length_cons]; omega
      have h3 : ¬ (a :: b :: r).length = 1 := by simp only [List.length_cons]; omega
      generalize hS : a :: b :: r = s at *
      simp -implicitDefEqProofs [h1, h2, h3]
      intros
      refine callK_still (r := .bool false) (fun h => absurd h (by simp)) ?_
      simp -implicitDefEqProofs
      rw [← hR, decide_eq_false h3]; rfl
theorem c_NameOk (s : Bs) (K) : Ct Tryz.prog 253 [.str s] K (.bool (nameOk s)) K := by
  generalize hR : nameOk s = R
  unfold nameOk at hR
  refine ct_fn { n0 := 4, ex := [14, 15], tk := [6, 11, 21] } Tryz.func253 rfl (by kernel_rfl) (by kernel_rfl) rfl ?_
  simp -implicitDefEqProofs [Tryz.f253]
  intro hmx
  refine callK_of (c_in _ _ _ _) ?_
  have hin : inR (s.length : Int) 1 30 = (decide (0 < s.length) && decide (s.length ≤ 30)) := by
    unfold inR; rw [Bool.eq_iff_iff]; simp only [Bool.and_eq_true, decide_eq_true_eq]; omega
  rw [hin]
  by_cases hg : 0 < s.length ∧ s.length ≤ 30
  · obtain ⟨hpos, h30⟩ := hg
    obtain ⟨b, hx⟩ : ∃ b, s[0]? = some b := ⟨_, List.getElem?_eq_getElem hpos⟩
    have hxe : s[0]'hpos = b := (List.getElem?_eq_some_iff.1 hx).2
    have hg : s.getD 0 0 = b := by rw [List.getD_eq_getElem?_getD, hx]; rfl
    rw [hg] at hR
    rw [decide_eq_true hpos, decide_eq_true h30] at hR ⊢
    simp -implicitDefEqProofs [hpos, hx, hxe]
    refine callK_still (fun _ => c_isFigure b _) ?_
    cases hf : isFig b with
    | true =>
      rw [hf] at hR
      simp -implicitDefEqProofs
      simpa using hR
    | false =>
      rw [hf] at hR
      have hR : s.all isNm = R := by simpa using hR
      simp -implicitDefEqProofs
      obtain ⟨I, hI⟩ : ∃ I : Nat → St → Prop, ∀ m st, I m st ↔ ∃ i, i ≤ s.length ∧ m = s.length - i ∧ (s.drop i).all isNm = R ∧
        st = { env := [(0, .str s), (2, .bool false), (14, .int .i64 s.length), (15, .int .i64 i)], loc := [], K := [] :: K } := ⟨_, fun _ _ => Iff.rfl⟩
      intro _
      refine wC_loopI I s.length ((hI _ _).2 ⟨0, by omega, rfl, by simpa using hR, rfl⟩) (St.le_of (by simp) (by simp) rfl (by simp)) ?_
      intro m st hst
      obtain ⟨i, hi, rfl, hp, rfl⟩ := (hI _ _).1 hst
      clear hst
      rcases Nat.lt_or_ge i s.length with hlt | hge
      · obtain ⟨c, hy⟩ : ∃ c, s[i]? = some c := ⟨_, List.getElem?_eq_getElem hlt⟩
        have hye : s[i]'hlt = c := (List.getElem?_eq_some_iff.1 hy).2
        have w1 : IntKind.i64.wrap ((i : Int) + 1) = (i + 1 : Nat) := by rw [wrap64 (by omega) (by omega)]; rfl
        rw [drop_cons hy, List.all_cons] at hp
        simp -implicitDefEqProofs [hlt, hye, hy, w1]
        refine callK_of (c_inName c _) ?_
        cases h1 : isNm c with
        | true =>
          rw [h1] at hp
          simp -implicitDefEqProofs [w1]
          exact ⟨s.length - (i + 1), by omega, _, St.le_of (by simp) (by simp [St.trunc, look, mapV, mapC, killP]) rfl (by simp [St.trunc, mapC]), (hI _ _).2 ⟨i + 1, by omega, rfl, by simpa using hp, rfl⟩⟩
        | false =>
          rw [h1] at hp
          simp -implicitDefEqProofs
          simpa using hp
      · have hn : ¬ i < s.length := by omega
        rw [drop_nil hge] at hp
        simp -implicitDefEqProofs [hn]
        simpa using hp
  · have hb : (decide (0 < s.length) && decide (s.length ≤ 30)) = false := by
      rw [Bool.eq_false_iff]; simpa using hg
    rw [hb] at hR ⊢
    simp -implicitDefEqProofs
    refine callK_still (r := .bool false) (fun h => absurd h (by simp)) ?_
    simp -implicitDefEqProofs
    simpa using hR
/-- Is a token one that may be? -/
def tokOk (t : DToken) : Bool :=
  if t.kind = 1 then signOk t.text else if t.kind = 2 then nameOk t.text else if t.kind = 3 then intOk t.text else if t.kind = 4 then floatOk t.text else if t.kind = 5 then decide (escaped t.text ≠ []) else false
/-- Its text. -/
def tokTx (t : DToken) : Bs := if t.kind = 5 then escaped t.text else t.text
def isNumT (t : DToken) : Bool := decide (t.kind = 3) || decide (t.kind = 4)
def wordT (t : DToken) : Bool := decide (t.kind = 2) || isNumT t
def aparT (a b : DToken) : Bool := (wordT a && wordT b) || ((isNumT a && (decide (b.kind = 1) && decide (b.text = [46, 46, 46]))) || (decide (a.kind = 5) && decide (b.kind = 5)))
theorem intOk_len {s : Bs} (h : intOk s = true) : s.length ≤ 40 := by
  unfold intOk at h
  simp only [Bool.and_eq_true, decide_eq_true_eq] at h
  omega
theorem floatOk_len {s : Bs} (h : floatOk s = true) : s.length ≤ 40 := by
  unfold floatOk at h
  split at h
  · exact absurd h (by simp)
  · omega
theorem nameOk_len {s : Bs} (h : nameOk s = true) : s.length ≤ 30 := by
  unfold nameOk at h
  simp only [Bool.and_eq_true, decide_eq_true_eq] at h
  exact h.1.1.2
theorem signOk_len {s : Bs} (h : signOk s = true) : s.length ≤ 3 := by
  unfold signOk at h
  simp only [Bool.and_eq_true, Bool.or_eq_true, decide_eq_true_eq] at h
  rcases h with h | h
  · rw [h]; decide
  · omega
theorem tokTx_len {t : DToken} (h : tokOk t = true) : (tokTx t).length ≤ 1202 := by
  unfold tokOk at h
  unfold tokTx
  by_cases h5 : t.kind = 5
  · rw [if_pos h5]; exact escaped_len _
  · rw [if_neg h5]
    by_cases h1 : t.kind = 1
    · rw [if_pos h1] at h; have := signOk_len h; omega
    rw [if_neg h1] at h
    by_cases h2 : t.kind = 2
    · rw [if_pos h2] at h; have := nameOk_len h; omega
    rw [if_neg h2] at h
    by_cases h3 : t.kind = 3
    · rw [if_pos h3] at h; have := intOk_len h; omega
    rw [if_neg h3] at h
    by_cases h4 : t.kind = 4
    · rw [if_pos h4] at h; have := floatOk_len h; omega
    rw [if_neg h4, if_neg h5] at h
    exact absurd h (by simp)
variable (t : DToken) (K : List (List (List AC)))
theorem c_TokenOk : Ct Tryz.prog 197 [tkC t] K (.bool (tokOk t)) K := by
  generalize hR : tokOk t = R
  unfold tokOk at hR
  obtain ⟨k, x, a⟩ := t
  unfold tkC
  simp only at hR ⊢
  refine ct_fn { n0 := 3, ex := [4], tk := [9, 14, 19, 24, 29] } Tryz.func197 rfl (by kernel_rfl) (by kernel_rfl) rfl ?_
  simp -implicitDefEqProofs [Tryz.f197]
  by_cases h1 : k = 1
  · subst h1
    rw [if_pos rfl] at hR
    simp -implicitDefEqProofs
    refine callK_of (c_SignOk x _) ?_
    simp -implicitDefEqProofs
    rw [← hR]
  rw [if_neg h1] at hR
  by_cases h2 : k = 2
  · subst h2
    rw [if_pos rfl] at hR
    simp -implicitDefEqProofs
    refine callK_of (c_NameOk x _) ?_
    simp -implicitDefEqProofs
    rw [← hR]
  rw [if_neg h2] at hR
  by_cases h3 : k = 3
  · subst h3
    rw [if_pos rfl] at hR
    simp -implicitDefEqProofs
    refine callK_of (c_IntOk x _) ?_
    simp -implicitDefEqProofs
    rw [← hR]
  rw [if_neg h3] at hR
  by_cases h4 : k = 4
  · subst h4
    rw [if_pos rfl] at hR
    simp -implicitDefEqProofs
    refine callK_of (c_FloatOk x _) ?_
    simp -implicitDefEqProofs
    rw [← hR]
  rw [if_neg h4] at hR
  by_cases h5 : k = 5
  · subst h5
    rw [if_pos rfl] at hR
    simp -implicitDefEqProofs
    refine callK_of (c_Escaped x _) ?_
    simp -implicitDefEqProofs
    rw [← hR]; simp
  rw [if_neg h5] at hR
  simp -implicitDefEqProofs [h1, h2, h3, h4, h5]
  simpa using hR
theorem c_TokenOkS (hs : t.text.length ≤ 1000000000) : Ct Tryz.prog 194 [tkC t] K (.bool (tokOk t)) K := by
  generalize hR : tokOk t = R
  unfold tokOk at hR
  obtain ⟨k, x, a⟩ := t
  unfold tkC
  simp only at hR hs ⊢
  refine ct_fn { n0 := 3, ex := [4], tk := [9, 14, 19, 24, 29] } Tryz.func194 rfl (by kernel_rfl) (by kernel_rfl) rfl ?_
  simp -implicitDefEqProofs [Tryz.f194]
  by_cases h1 : k = 1
  · subst h1
    rw [if_pos rfl] at hR
    simp -implicitDefEqProofs
    refine callK_of (c_SignOkS x _) ?_
    simp -implicitDefEqProofs
    rw [← hR]
  rw [if_neg h1] at hR
  by_cases h2 : k = 2
  · subst h2
    rw [if_pos rfl] at hR
    simp -implicitDefEqProofs
    refine callK_of (c_NameOkS x hs _) ?_
    simp -implicitDefEqProofs
    rw [← hR]
  rw [if_neg h2] at hR
  by_cases h3 : k = 3
  · subst h3
    rw [if_pos rfl] at hR
    simp -implicitDefEqProofs
    refine callK_of (c_IntOkS x hs _) ?_
    simp -implicitDefEqProofs
    rw [← hR]
  rw [if_neg h3] at hR
  by_cases h4 : k = 4
  · subst h4
    rw [if_pos rfl] at hR
    simp -implicitDefEqProofs
    refine callK_of (c_FloatOkS x hs _) ?_
    simp -implicitDefEqProofs
    rw [← hR]
  rw [if_neg h4] at hR
  by_cases h5 : k = 5
  · subst h5
    rw [if_pos rfl] at hR
    simp -implicitDefEqProofs
    refine callK_of (c_EscapedS x hs _) ?_
    simp -implicitDefEqProofs
    rw [← hR]; simp
  rw [if_neg h5] at hR
  simp -implicitDefEqProofs [h1, h2, h3, h4, h5]
  simpa using hR
theorem c_TokenText : Ct Tryz.prog 199 [tkC t] K (.str (tokTx t)) K := by
  generalize hR : tokTx t = R
  unfold tokTx at hR
  obtain ⟨k, x, a⟩ := t
  unfold tkC
  simp only at hR ⊢
  refine ct_fn { n0 := 3, ex := [], tk := [8, 10] } Tryz.func199 rfl (by kernel_rfl) (by kernel_rfl) rfl ?_
  simp -implicitDefEqProofs [Tryz.f199]
  by_cases h5 : k = 5
  · rw [if_pos h5] at hR
    simp -implicitDefEqProofs [h5]
    refine callK_of (c_Escaped x _) ?_
    simp -implicitDefEqProofs
    exact hR.symm
  · rw [if_neg h5] at hR
    simp -implicitDefEqProofs [h5]
    exact hR.symm
theorem c_TokenTextS (hs : t.text.length ≤ 1000000000) : Ct Tryz.prog 196 [tkC t] K (.str (tokTx t)) K := by
  generalize hR : tokTx t = R
  unfold tokTx at hR
  obtain ⟨k, x, a⟩ := t
  unfold tkC
  simp only at hR hs ⊢
  refine ct_fn { n0 := 3, ex := [], tk := [8, 10] } Tryz.func196 rfl (by kernel_rfl) (by kernel_rfl) rfl ?_
  simp -implicitDefEqProofs [Tryz.f196]
  by_cases h5 : k = 5
  · rw [if_pos h5] at hR
    simp -implicitDefEqProofs [h5]
    refine callK_of (c_EscapedS x hs _) ?_
    simp -implicitDefEqProofs
    exact hR.symm
  · rw [if_neg h5] at hR
    simp -implicitDefEqProofs [h5]
    exact hR.symm
theorem c_isNumber : Ct Tryz.prog 255 [tkC t] K (.bool (isNumT t)) K := by
  obtain ⟨k, x, a⟩ := t
  unfold tkC isNumT
  refine ct_fn { n0 := 3, ex := [], tk := [] } Tryz.func255 rfl (by kernel_rfl) (by kernel_rfl) rfl ?_
  simp -implicitDefEqProofs [Tryz.f255]
theorem c_word : Ct Tryz.prog 254 [tkC t] K (.bool (wordT t)) K := by
  have hN := fun K => c_isNumber t K
  unfold wordT
  generalize hR : (decide (t.kind = 2) || isNumT t) = R
  generalize isNumT t = w at *
  obtain ⟨k, x, a⟩ := t
  unfold tkC at *
  simp only at hR
  refine ct_fn { n0 := 3, ex := [], tk := [8] } Tryz.func254 rfl (by kernel_rfl) (by kernel_rfl) rfl ?_
  simp -implicitDefEqProofs [Tryz.f254]
  by_cases h2 : k = 2
  · simp -implicitDefEqProofs [h2]
    refine callK_still (r := .bool false) (fun h => absurd h (by simp)) ?_
    simp -implicitDefEqProofs
    rw [← hR, h2]; simp
  · simp -implicitDefEqProofs [h2]
    refine callK_still (fun _ => hN _) ?_
    simp -implicitDefEqProofs
    rw [← hR, decide_eq_false h2]; simp
theorem c_l15Wordy : Ct Tryz.prog 251 [tkC t] K (.bool (wordT t)) K := by
  generalize hR : wordT t = R
  unfold wordT isNumT at hR
  obtain ⟨k, x, a⟩ := t
  unfold tkC at *
  simp only at hR
  refine ct_fn { n0 := 3, ex := [], tk := [5] } Tryz.func251 rfl (by kernel_rfl) (by kernel_rfl) rfl ?_
  simp -implicitDefEqProofs [Tryz.f251]
  refine callK_of (c_l01In k 2 4 _) ?_
  simp -implicitDefEqProofs
  rw [← hR, Bool.eq_iff_iff]
  simp only [Bool.and_eq_true, Bool.or_eq_true, decide_eq_true_eq]
  omega
end Go.Proofs.YtkefgpmnimpcdaaGreatDoor.Abs
