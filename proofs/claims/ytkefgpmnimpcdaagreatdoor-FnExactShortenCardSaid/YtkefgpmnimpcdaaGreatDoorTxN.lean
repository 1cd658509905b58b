/- Whole numbers in texts: plain laws, and both sides' functions as contracts. No condition. -/
import Derived.Lib.IndexMore
import Derived.Test.YtkefgpmnimpcdaaGreatDoorTxC
set_option linter.unusedVariables false
set_option linter.unusedSimpArgs false
namespace Go.Proofs.YtkefgpmnimpcdaaGreatDoor.Abs
open Go
set_option maxHeartbeats 1000000
set_option maxRecDepth 100000
def figs (s : Bs) : Bool := s.all isFig && decide (s ≠ [])
def digsOf (s : Bs) : Bs := if ([45] : Bs).isPrefixOf s then s.drop 1 else s
def intOk (s : Bs) : Bool := decide ((s.length : Int) ≤ 40) && figs (digsOf s) && (decide (digsOf s = [48]) || !decide ((((digsOf s)[0]?.getD 0).toNat : Int) = 48))
def runN (l : Bs) : Nat := (l.takeWhile isFig).length
theorem runN_le (l : Bs) : runN l ≤ l.length := by unfold runN; exact (List.takeWhile_prefix _).length_le
theorem runN_cons {b : UInt8} {l : Bs} : runN (b :: l) = if isFig b then runN l + 1 else 0 := by
  unfold runN; rw [List.takeWhile_cons]; split <;> simp
theorem runN_all {l : Bs} : runN l = l.length ↔ l.all isFig = true := by
  induction l with
  | nil => simp [runN]
  | cons b l ih =>
    rw [runN_cons, List.all_cons]
    cases h : isFig b
    · simp
    · simpa using ih
theorem c_figures (s : Bs) (K) : Ct Tryz.prog 230 [.str s] K (.bool (figs s)) K := by
  generalize hr : figs s = r
  unfold figs at hr
  refine ct_fn { n0 := 4, ex := [5, 6], tk := [12] } Tryz.func230 rfl (by kernel_rfl) (by kernel_rfl) rfl ?_
  simp -implicitDefEqProofs [Tryz.f230]
  intro hml
  obtain ⟨I, hI⟩ : ∃ I : Nat → St → Prop, ∀ m st, I m st ↔ ∃ i, i ≤ s.length ∧ m = s.length - i ∧ (s.drop i).all isFig = s.all isFig ∧
    st = { env := [(0, .str s), (2, .bool false), (5, .int .i64 s.length), (6, .int .i64 i)], loc := [], K := [] :: K } := ⟨_, fun _ _ => Iff.rfl⟩
  refine wC_loopI I s.length ((hI _ _).2 ⟨0, by omega, rfl, rfl, rfl⟩) (St.le_of (by simp) (by simp) rfl (by simp)) ?_
  intro m st hst
  obtain ⟨i, hi, rfl, ha, rfl⟩ := (hI _ _).1 hst
  rcases Nat.lt_or_ge i s.length with hlt | hge
  · obtain ⟨b, hx⟩ : ∃ b, s[i]? = some b := ⟨_, List.getElem?_eq_getElem hlt⟩
    have hxe : s[i]'hlt = b := (List.getElem?_eq_some_iff.1 hx).2
    have w1 : IntKind.i64.wrap ((i : Int) + 1) = (i + 1 : Nat) := by unfold maxLen at hml; rw [wrap64 (by omega) (by omega)]; rfl
    rw [drop_cons hx, List.all_cons] at ha
    simp -implicitDefEqProofs [hlt, hxe, hx, w1]
    refine callK_of (c_isFigure b _) ?_
    simp -implicitDefEqProofs [w1]
    refine ⟨fun h => ?_, fun h => ?_⟩
    · rw [h] at ha; rw [← ha] at hr; simp at hr; exact hr
    · rw [h] at ha
      exact ⟨s.length - (i + 1), by omega, _, St.le_of (by simp) (by simp [St.trunc, look, mapV, mapC, killP]) rfl (by simp [St.trunc, mapC]), (hI _ _).2 ⟨i + 1, by omega, rfl, by simpa using ha, rfl⟩⟩
  · have e : i = s.length := by omega
    subst e
    rw [drop_nil (Nat.le_refl _)] at ha
    rw [← ha] at hr
    simp -implicitDefEqProofs
    rw [← hr]; simp
theorem c_IntOk (s : Bs) (K) : Ct Tryz.prog 155 [.str s] K (.bool (intOk s)) K := by
  generalize hr : intOk s = r
  unfold intOk at hr
  refine ct_fn { n0 := 4, ex := [], tk := [5, 11] } Tryz.func155 rfl (by kernel_rfl) (by kernel_rfl) rfl ?_
  simp -implicitDefEqProofs [Tryz.f155]
  refine callK_of (c_TrimPrefix s [45] _) ?_
  have hd : (if ([45] : Bs).isPrefixOf s then s.drop ([45] : Bs).length else s) = digsOf s := rfl
  rw [hd]
  generalize hD : digsOf s = D at *
  simp -implicitDefEqProofs
  intro hml
  refine callK_still (fun _ => c_figures D _) ?_
  simp -implicitDefEqProofs
  exact ⟨fun _ h _ => by cases D with
    | nil => simp [figs] at h
    | cons _ _ => simp, hr.symm⟩
theorem c_l03Run (s : Bs) (i : Nat) (hs : s.length ≤ 1000000000) (hi : i ≤ 1000000001) (K) : Ct Tryz.prog 215 [.str s, .int .i64 i] K (.int .i64 ((i + runN (s.drop i) : Nat) : Int)) K := by
  refine ct_fn { n0 := 5, ex := [], tk := [13, 17] } Tryz.func215 rfl (by kernel_rfl) (by kernel_rfl) rfl ?_
  simp -implicitDefEqProofs [Tryz.f215]
  obtain ⟨I, hI⟩ : ∃ I : Nat → St → Prop, ∀ m st, I m st ↔ ∃ j, i ≤ j ∧ m = s.length - j ∧ (j ≤ s.length ∨ j = i) ∧ j + runN (s.drop j) = i + runN (s.drop i) ∧
    st = { env := [(0, .str s), (1, .int .i64 j), (4, .int .i64 0)], loc := [], K := [] :: K } := ⟨_, fun _ _ => Iff.rfl⟩
  refine wC_loopI I (s.length - i) ((hI _ _).2 ⟨i, by omega, rfl, .inr rfl, rfl, rfl⟩) (St.le_of (by simp) (by simp) rfl (by simp)) ?_
  intro m st hst
  obtain ⟨j, hj, rfl, hj2, ha, rfl⟩ := (hI _ _).1 hst
  rcases Nat.lt_or_ge j s.length with hlt | hge
  · obtain ⟨b, hx⟩ : ∃ b, s[j]? = some b := ⟨_, List.getElem?_eq_getElem hlt⟩
    have hxe : s[j]'hlt = b := (List.getElem?_eq_some_iff.1 hx).2
    have w1 : IntKind.i64.wrap ((j : Int) + 1) = (j + 1 : Nat) := by rw [wrap64 (by omega) (by omega)]; rfl
    rw [drop_cons hx, runN_cons] at ha
    simp -implicitDefEqProofs [hlt, hxe, hx, w1]
    intro hml
    refine callK_still (fun _ => c_l03Figure b _) ?_
    simp -implicitDefEqProofs [w1]
    refine ⟨fun h => ?_, fun h => ?_⟩
    · rw [h] at ha
      exact ⟨s.length - (j + 1), by omega, _, St.le_of (by simp) (by simp [St.trunc, look, mapV, mapC, killP]) rfl (by simp [St.trunc, mapC]), (hI _ _).2 ⟨j + 1, by omega, rfl, by omega, by simp at ha; omega, rfl⟩⟩
    · rw [h] at ha; simp at ha; omega
  · rw [drop_nil hge] at ha
    simp -implicitDefEqProofs [hge]
    intro hml
    refine callK_still (fun _ => c_l03Figure 0 _) ?_
    simp -implicitDefEqProofs [hge]
    have e : ¬ j < s.length := by omega
    simp -implicitDefEqProofs [e]
    have h0 : runN ([] : Bs) = 0 := rfl
    rw [h0] at ha
    omega
/-- The place behind a whole number at the beginning of a text; 0 where there is none. -/
def atSign (s : Bs) : Nat := if s[0]? = some 45 then 1 else 0
def intEnd (s : Bs) : Nat := if runN (s.drop (atSign s)) = 0 ∨ (s[atSign s]? = some 48 ∧ 1 < runN (s.drop (atSign s))) then 0 else atSign s + runN (s.drop (atSign s))
theorem atSign_cases (s : Bs) : (s[0]? = some 45 ∧ atSign s = 1) ∨ (s[0]? ≠ some 45 ∧ atSign s = 0) := by
  unfold atSign; split
  · exact .inl ⟨‹_›, rfl⟩
  · exact .inr ⟨‹_›, rfl⟩
theorem intEnd_le (s : Bs) : intEnd s ≤ s.length := by
  unfold intEnd; split
  · omega
  · have := runN_le (s.drop (atSign s))
    rw [List.length_drop] at this
    rcases atSign_cases s with ⟨h, h2⟩ | ⟨h, h2⟩
    · have := (List.getElem?_eq_some_iff.1 h).1; omega
    · omega
theorem getD_u8 {s : Bs} {i : Nat} {n : Nat} (hn : 0 < n) (hn2 : n < 256) : (((s[i]?.getD 0).toNat : Int) = n) ↔ s[i]? = some (UInt8.ofNat n) := by
  cases h : s[i]? with
  | none => simp; omega
  | some b =>
    simp only [Option.getD_some, Option.some.injEq]
    constructor
    · intro e; apply UInt8.toNat_inj.1; rw [UInt8.toNat_ofNat']; omega
    · rintro rfl; rw [UInt8.toNat_ofNat']; omega
theorem c_l03Int (s : Bs) (hs : s.length ≤ 1000000000) (K) : Ct Tryz.prog 214 [.str s] K (.int .i64 (intEnd s)) K := by
  generalize hr : intEnd s = r
  unfold intEnd at hr
  have hrl := runN_le (s.drop (atSign s))
  rw [List.length_drop] at hrl
  have g45 := getD_u8 (s := s) (i := 0) (n := 45) (by omega) (by omega)
  have g48 := getD_u8 (s := s) (i := atSign s) (n := 48) (by omega) (by omega)
  have hS := atSign_cases s
  refine ct_fn { n0 := 5, ex := [], tk := [15, 31] } Tryz.func214 rfl (by kernel_rfl) (by kernel_rfl) rfl ?_
  simp -implicitDefEqProofs [Tryz.f214]
  intro hml
  refine ⟨fun h h2 => ?_, fun h => ?_⟩
  · have h3 : atSign s = 1 := by
      rcases hS with h4 | h4
      · exact h4.2
      · exact absurd (g45.1 (by simpa using h2)) h4.1
    rw [h3] at hr g48 hrl
    have hc := fun K => c_l03Run s 1 hs (by omega) K
    generalize runN (s.drop 1) = n at *
    refine callK_of (hc _) ?_
    simp -implicitDefEqProofs [show IntKind.i64.wrap 2 = 2 from rfl]
    simp at g48
    refine ⟨fun h5 => by omega, fun h5 => ?_, fun h5 h6 => ?_⟩
    · rw [if_pos] at hr
      · exact hr.symm
      · rcases h5 with h5 | h5
        · exact .inl (by omega)
        · exact .inr ⟨g48.1 h5.1, by omega⟩
    · rw [if_neg] at hr
      · omega
      · rintro (h7 | h7)
        · omega
        · have := h6 (g48.2 h7.1); omega
  · have h3 : atSign s = 0 := by
      rcases hS with h4 | h4
      · have := (List.getElem?_eq_some_iff.1 h4.1).1
        exact absurd (by simpa using g45.2 h4.1) (h (by omega))
      · exact h4.2
    rw [h3] at hr g48 hrl
    have hc := fun K => c_l03Run s 0 hs (by omega) K
    generalize runN (s.drop 0) = n at *
    refine callK_of (hc _) ?_
    simp -implicitDefEqProofs [show IntKind.i64.wrap 1 = 1 from rfl]
    simp at g48
    refine ⟨fun h5 => by omega, fun h5 => ?_, fun h5 h6 => ?_⟩
    · rw [if_pos] at hr
      · exact hr.symm
      · rcases h5 with h5 | h5
        · exact .inl (by omega)
        · exact .inr ⟨g48.1 h5.1, by omega⟩
    · rw [if_neg] at hr
      · omega
      · rintro (h7 | h7)
        · omega
        · have := h6 (g48.2 h7.1); omega
/-- A whole number: what the program asks is what the reference asks. -/
theorem digsOf_eq (s : Bs) : digsOf s = s.drop (atSign s) := by
  unfold digsOf atSign
  cases s with
  | nil => rfl
  | cons b s =>
    by_cases h : b = 45
    · subst h; simp
    · have h2 : ¬ (45 = b) := fun e => h e.symm
      simp [h, h2]
theorem intOk_iff (s : Bs) : intOk s = (decide ((s.length : Int) ≤ 40) && decide ((0 : Int) < s.length) && decide ((intEnd s : Int) = s.length)) := by
  have g48 : (((s[atSign s]?.getD 0).toNat : Int) = 48) ↔ s[atSign s]? = some 48 := getD_u8 (s := s) (i := atSign s) (n := 48) (by omega) (by omega)
  have hd : (digsOf s)[0]?.getD 0 = s[atSign s]?.getD 0 := by rw [digsOf_eq, List.getElem?_drop]; rfl
  have hll := runN_le (s.drop (atSign s))
  have hal := runN_all (l := s.drop (atSign s))
  have hS := atSign_cases s
  rw [Bool.eq_iff_iff]
  unfold intOk figs intEnd
  rw [hd, digsOf_eq]
  generalize hR : runN (s.drop (atSign s)) = n at *
  have hlen : (s.drop (atSign s)).length = s.length - atSign s := List.length_drop
  simp only [Bool.and_eq_true, Bool.or_eq_true, Bool.not_eq_true', decide_eq_true_eq, decide_eq_false_iff_not, g48]
  constructor
  · rintro ⟨⟨h1, h2, h3⟩, h4⟩
    have h5 := hal.2 h2
    have h6 : 0 < (s.drop (atSign s)).length := List.length_pos_iff.2 h3
    refine ⟨⟨h1, by omega⟩, ?_⟩
    rw [if_neg]
    · omega
    · rintro (h7 | ⟨h7, h8⟩)
      · omega
      · rcases h4 with h4 | h4
        · rw [h4] at h5; simp at h5; omega
        · exact h4 h7
  · rintro ⟨⟨h1, h2⟩, h3⟩
    split at h3
    · omega
    · next h4 =>
      have h5 : n = (s.drop (atSign s)).length := by omega
      refine ⟨⟨h1, hal.1 h5, fun e => ?_⟩, ?_⟩
      · rw [e] at h5; simp at h5; omega
      · by_cases h6 : s[atSign s]? = some 48
        · left
          have h7 : n = 1 := by
            have : ¬ (1 < n) := fun e => h4 (.inr ⟨h6, e⟩)
            have : n ≠ 0 := fun e => h4 (.inl e)
            omega
          rw [drop_cons h6] at h5 ⊢
          simp at h5
          have : s.drop (atSign s + 1) = [] := List.eq_nil_of_length_eq_zero (by simp; omega)
          rw [this]
        · right; exact h6
theorem c_IntOkS (s : Bs) (hs : s.length ≤ 1000000000) (K) : Ct Tryz.prog 138 [.str s] K (.bool (intOk s)) K := by
  rw [intOk_iff]
  refine ct_fn { n0 := 3, ex := [], tk := [13] } Tryz.func138 rfl (by kernel_rfl) (by kernel_rfl) rfl ?_
  simp -implicitDefEqProofs [Tryz.f138]
  intro _ _
  refine callK_still (fun _ => c_l03Int s hs _) ?_
  simp -implicitDefEqProofs
  done
end Go.Proofs.YtkefgpmnimpcdaaGreatDoor.Abs
