/- Numbers with a fraction or a power: plain laws, and both sides' functions as contracts. No condition. -/
import Derived.Shelf.Strings.Cut
import Derived.Lib.IndexLaws
import Derived.Lib.IndexBytes
import Derived.Test.YtkefgpmnimpcdaaGreatDoorTxIdx
set_option linter.unusedVariables false
set_option linter.unusedSimpArgs false
namespace Go.Proofs.YtkefgpmnimpcdaaGreatDoor.Abs
open Go Go.RowKit
set_option maxHeartbeats 1000000
set_option maxRecDepth 100000
/-- What stands ahead of a byte, what behind it, and is it there. -/
def cutB : Bs → UInt8 → Bs × Bs × Bool
  | [], _ => ([], [], false)
  | b :: s, c => if b = c then ([], s, true) else (b :: (cutB s c).1, (cutB s c).2.1, (cutB s c).2.2)
theorem cut_eq (s : Bs) (c : UInt8) : Lib.cut s [c] = cutB s c := by
  unfold Lib.cut
  rw [Lib.index_one]
  induction s with
  | nil => rfl
  | cons b s ih =>
    have hge := Lib.indexByte_ge s c
    unfold Lib.indexByte cutB
    by_cases h : b = c
    · subst h; simp
    · have hbe : (b == c) = false := by simpa using h
      rw [hbe, if_neg h, ← ih]
      by_cases h2 : Lib.indexByte s c = -1
      · simp [h2]
      · have h3 : 0 ≤ Lib.indexByte s c := by omega
        have h4 : (Lib.indexByte s c == -1) = false := by simpa using h2
        obtain ⟨k, hk⟩ : ∃ k : Nat, Lib.indexByte s c = k := ⟨(Lib.indexByte s c).toNat, by omega⟩
        rw [h4, if_pos h3]
        simp only [Bool.false_eq_true, if_false]
        rw [if_pos (by omega), hk]
        have h5 : ((k : Int) + 1).toNat = k + 1 := by omega
        rw [h5]; simp
theorem cutB_eq (s : Bs) (c : UInt8) : (c ∉ s ∧ cutB s c = (s, [], false)) ∨ ∃ A R, s = A ++ c :: R ∧ c ∉ A ∧ cutB s c = (A, R, true) := by
  induction s with
  | nil => left; exact ⟨by simp, rfl⟩
  | cons b s ih =>
    unfold cutB
    by_cases h : b = c
    · subst h; right; exact ⟨[], s, rfl, by simp, by simp⟩
    · have h' : ¬ c = b := fun e => h e.symm
      rw [if_neg h]
      rcases ih with ⟨h1, h2⟩ | ⟨A, R, h1, h2, h3⟩
      · left; exact ⟨by simp [h', h1], by rw [h2]⟩
      · right; exact ⟨b :: A, R, by rw [h1]; rfl, by simp [h', h2], by rw [h3]⟩
theorem cutB_app {A R : Bs} {c : UInt8} (h : c ∉ A) : cutB (A ++ c :: R) c = (A, R, true) := by
  induction A with
  | nil => unfold cutB; simp
  | cons b A ih =>
    simp only [List.mem_cons, not_or] at h
    rw [List.cons_append]; unfold cutB
    rw [if_neg (fun e => h.1 e.symm), ih h.2]
theorem cutB_no {A : Bs} {c : UInt8} (h : c ∉ A) : cutB A c = (A, [], false) := by
  rcases cutB_eq A c with ⟨_, h2⟩ | ⟨B, R, h1, _⟩
  · exact h2
  · exact absurd (by rw [h1]; simp) h
theorem c_Cut1 (s : Bs) (c : UInt8) (hs : s.length < 4294967281) (K) : Ct Tryz.prog 231 [.str s, .str [c]] K (.tup [.str (cutB s c).1, .str (cutB s c).2.1, .bool (cutB s c).2.2]) K := by
  rw [← cut_eq]
  refine ct_lib ⟨_, Tryz.func231, rfl, by kernel_rfl⟩ rfl ?_ K
  intro w Pr vals ht h0
  obtain ⟨b, _, rfl, rfl, hl, h1⟩ := h0.str_inv
  obtain ⟨d, _, rfl, ed, hl2, h2⟩ := h1.str_inv
  obtain ⟨rfl, _⟩ := h2.nil_inv
  obtain ⟨m, hm⟩ := (ht.2 _ List.mem_cons_self).2
  refine (Any.strings_Cut Tryz.lays145 b d m w (by rw [str_size]; exact hs) hm).mono ?_
  rintro e w' ⟨rfl, n, rfl⟩
  rw [ed]
  have hle : (Lib.cut b.data.toList [c]).1.length ≤ maxLen ∧ (Lib.cut b.data.toList [c]).2.1.length ≤ maxLen := by
    unfold Lib.cut
    split
    · simp only [List.length_take, List.length_drop]; omega
    · exact ⟨hl, by simp⟩
  refine ⟨_, rfl, fun w Pr bl => ?_, below_drewNv (Below.refl _ _) n⟩
  exact .tup (Reps.cons (L := []) (M := []) (.str (by simp) hle.1) (Reps.cons (L := []) (M := []) (.str (by simp) hle.2) (Reps.cons (L := []) (M := []) .bool .nil)))
/-- The first of some bytes in a text. -/
theorem indexAny_cases (s cs : Bs) : (Lib.indexAny s cs = -1 ∧ ∀ b ∈ s, cs.contains b = false) ∨ ∃ i x, Lib.indexAny s cs = (i : Nat) ∧ s[i]? = some x ∧ cs.contains x = true ∧ (∀ b ∈ s.take i, cs.contains b = false) := by
  induction s with
  | nil => left; exact ⟨rfl, by simp⟩
  | cons b s ih =>
    cases hb : cs.contains b
    · rcases ih with ⟨h1, h2⟩ | ⟨i, x, h1, h2, h3, h4⟩
      · left
        refine ⟨by simp only [Lib.indexAny, hb, h1]; simp, ?_⟩
        intro y hy
        rcases List.mem_cons.1 hy with rfl | hy
        · exact hb
        · exact h2 y hy
      · right
        refine ⟨i + 1, x, ?_, by simpa using h2, h3, ?_⟩
        · simp only [Lib.indexAny, hb, h1]
          rw [if_neg (by simp), if_neg (by simp)]; rfl
        · intro y hy
          rw [List.take_succ_cons] at hy
          rcases List.mem_cons.1 hy with rfl | hy
          · exact hb
          · exact h4 y hy
    · right
      exact ⟨0, b, by simp only [Lib.indexAny, hb]; rfl, rfl, hb, by simp⟩
theorem figs_iff {d : Bs} : figs d = true ↔ d.all isFig = true ∧ d ≠ [] := by unfold figs; simp
theorem runN_app {d R : Bs} (hd : d.all isFig = true) (hR : ∀ b, R[0]? = some b → isFig b = false) : runN (d ++ R) = d.length := by
  induction d with
  | nil => cases R with
    | nil => rfl
    | cons b R => rw [List.nil_append, runN_cons, hR b rfl]; rfl
  | cons b d ih =>
    simp only [List.all_cons, Bool.and_eq_true] at hd
    rw [List.cons_append, runN_cons, hd.1, if_pos rfl, ih hd.2]; rfl
theorem runN_take (l : Bs) : (l.take (runN l)).all isFig = true := by
  induction l with
  | nil => rfl
  | cons b l ih =>
    rw [runN_cons]
    cases h : isFig b
    · simp
    · simpa [h] using ih
theorem intOk_split (s : Bs) : intOk s = true ↔ s.length ≤ 40 ∧ 0 < s.length ∧ intEnd s = s.length := by
  rw [intOk_iff]; simp; omega
/-- The place behind a whole number, where something else follows. -/
theorem intEnd_app {I R : Bs} (hI : intOk I = true) (hR : ∀ b, R[0]? = some b → isFig b = false) : intEnd (I ++ R) = I.length := by
  obtain ⟨h1, h2, h3⟩ := (intOk_split I).1 hI
  have hs0 : (I ++ R)[0]? = I[0]? := List.getElem?_append_left h2
  have hat : atSign (I ++ R) = atSign I := by unfold atSign; rw [hs0]
  unfold intEnd at h3 ⊢
  rw [hat]
  have hle := runN_le (I.drop (atSign I))
  rw [List.length_drop] at hle
  split at h3
  · omega
  · next hc =>
    have hall := runN_all.1 (show runN (I.drop (atSign I)) = (I.drop (atSign I)).length by rw [List.length_drop]; omega)
    have hlt : atSign I < I.length := by
      have : runN (I.drop (atSign I)) ≠ 0 := fun e => hc (.inl e)
      omega
    have hd : (I ++ R).drop (atSign I) = I.drop (atSign I) ++ R := by rw [List.drop_append_of_le_length (by omega)]
    rw [hd, runN_app hall hR, List.length_drop]
    have hg : (I ++ R)[atSign I]? = I[atSign I]? := List.getElem?_append_left hlt
    rw [hg, if_neg]
    · omega
    · intro h4
      apply hc
      rcases h4 with h4 | h4
      · left; omega
      · right; exact ⟨h4.1, by omega⟩
/-- What a whole number at the beginning is. -/
theorem intEnd_take {s : Bs} (h : 0 < intEnd s) (h40 : intEnd s ≤ 40) : intOk (s.take (intEnd s)) = true := by
  have hle := intEnd_le s
  generalize ha : intEnd s = a at *
  rw [intOk_split]
  have hl : (s.take a).length = a := by rw [List.length_take]; omega
  refine ⟨by omega, by omega, ?_⟩
  rw [hl]
  have hs0 : (s.take a)[0]? = s[0]? := by rw [List.getElem?_take, if_pos h]
  have hat : atSign (s.take a) = atSign s := by unfold atSign; rw [hs0]
  unfold intEnd at ha ⊢
  rw [hat]
  split at ha
  · omega
  · next hc =>
    have hd : (s.take a).drop (atSign s) = (s.drop (atSign s)).take (runN (s.drop (atSign s))) := by
      rw [List.drop_take]; congr 1; omega
    have hr : runN ((s.take a).drop (atSign s)) = runN (s.drop (atSign s)) := by
      rw [hd]
      have h1 := runN_take (s.drop (atSign s))
      have h2 := runN_all.2 h1
      rw [h2, List.length_take]
      have := runN_le (s.drop (atSign s))
      omega
    have hn : runN (s.drop (atSign s)) ≠ 0 := fun e => hc (.inl e)
    have hg : (s.take a)[atSign s]? = s[atSign s]? := by rw [List.getElem?_take, if_pos (by omega)]
    rw [hr, hg, if_neg hc]; exact ha
def isE (b : UInt8) : Bool := ([101, 69] : Bs).contains b
/-- As the reference scans it. -/
def floatOk (s : Bs) : Bool :=
  if 40 < s.length ∨ intEnd s = 0 ∨ intEnd s = s.length then false else
  if s[intEnd s]? = some 46 ∧ runN (s.drop (intEnd s + 1)) = 0 then false else
  let a := if s[intEnd s]? = some 46 then intEnd s + 1 + runN (s.drop (intEnd s + 1)) else intEnd s
  if s[a]? = some 101 ∨ s[a]? = some 69 then
    let p := if s[a + 1]? = some 43 ∨ s[a + 1]? = some 45 then a + 2 else a + 1
    if runN (s.drop p) = 0 then false else decide (p + runN (s.drop p) = s.length)
  else decide (a = s.length)
/-- As the program takes it apart. -/
def stripSign (p : Bs) : Bs := if p[0]? = some 43 ∨ p[0]? = some 45 then p.drop 1 else p
def floatI (s : Bs) : Bool :=
  if 40 < s.length then false else
  let i := Lib.indexAny s [101, 69]
  let front := if 0 ≤ i then s.take i.toNat else s
  let power := if 0 ≤ i then stripSign (s.drop (i.toNat + 1)) else []
  if 0 ≤ i ∧ figs power = false then false else
  intOk (cutB front 46).1 && ((cutB front 46).2.2 || decide (0 ≤ i)) && (!(cutB front 46).2.2 || figs (cutB front 46).2.1)
def FL (s : Bs) : Prop := s.length ≤ 40 ∧ ∃ I F E : Bs, s = I ++ (F ++ E) ∧ intOk I = true ∧ (F = [] ∨ ∃ d, F = 46 :: d ∧ figs d = true) ∧
  (E = [] ∨ ∃ c g d, isE c = true ∧ E = c :: (g ++ d) ∧ (g = [] ∨ g = [43] ∨ g = [45]) ∧ figs d = true) ∧ (F ≠ [] ∨ E ≠ [])
theorem isE_iff {b : UInt8} : isE b = true ↔ b = 101 ∨ b = 69 := by unfold isE; simp
theorem figs_head {d : Bs} (h : figs d = true) : ∃ b r, d = b :: r ∧ isFig b = true := by
  obtain ⟨h1, h2⟩ := figs_iff.1 h
  cases d with
  | nil => exact absurd rfl h2
  | cons b r => simp at h1; exact ⟨b, r, rfl, h1.1⟩
theorem notFig {b : UInt8} (h : b = 46 ∨ b = 101 ∨ b = 69 ∨ b = 43 ∨ b = 45) : isFig b = false := by
  rcases h with rfl | rfl | rfl | rfl | rfl <;> decide
theorem FL_floatOk {s : Bs} (h : FL s) : floatOk s = true := by
  obtain ⟨h40, I, F, E, rfl, hI, hF, hE, hFE⟩ := h
  have hEh : ∀ b, E[0]? = some b → isFig b = false := by
    rcases hE with rfl | ⟨c, g, d, hc, rfl, hg, hd⟩
    · simp
    · intro b hb; simp at hb; subst hb
      rcases isE_iff.1 hc with rfl | rfl <;> decide
  have hRh : ∀ b, (F ++ E)[0]? = some b → isFig b = false := by
    rcases hF with rfl | ⟨d, rfl, hd⟩
    · simpa using hEh
    · intro b hb; simp at hb; subst hb; decide
  have hie := intEnd_app hI hRh
  obtain ⟨hi1, hi2, hi3⟩ := (intOk_split I).1 hI
  have hlen : 0 < (F ++ E).length := by
    rcases hFE with h | h
    · have := List.length_pos_iff.2 h; simp; omega
    · have := List.length_pos_iff.2 h; simp; omega
  unfold floatOk
  rw [hie]
  have hg : (I ++ (F ++ E))[I.length]? = (F ++ E)[0]? := by rw [List.getElem?_append_right (Nat.le_refl _), Nat.sub_self]
  have hd1 : (I ++ (F ++ E)).drop (I.length + 1) = (F ++ E).drop 1 := by rw [List.drop_append]; simp
  rw [if_neg (by rw [List.length_append] at h40 ⊢; omega), hg, hd1]
  -- behind the fraction
  have key : ∀ a, a = I.length + F.length → (if (I ++ (F ++ E))[a]? = some 101 ∨ (I ++ (F ++ E))[a]? = some 69 then
      (if runN ((I ++ (F ++ E)).drop (if (I ++ (F ++ E))[a + 1]? = some 43 ∨ (I ++ (F ++ E))[a + 1]? = some 45 then a + 2 else a + 1)) = 0 then false else
        decide ((if (I ++ (F ++ E))[a + 1]? = some 43 ∨ (I ++ (F ++ E))[a + 1]? = some 45 then a + 2 else a + 1) + runN ((I ++ (F ++ E)).drop (if (I ++ (F ++ E))[a + 1]? = some 43 ∨ (I ++ (F ++ E))[a + 1]? = some 45 then a + 2 else a + 1)) = (I ++ (F ++ E)).length)) else decide (a = (I ++ (F ++ E)).length)) = true := by
    intro a ha
    have hs : I ++ (F ++ E) = (I ++ F) ++ E := by simp
    have hgl : ∀ k, ((I ++ F) ++ E)[a + k]? = E[k]? := fun k => by rw [List.getElem?_append_right (by rw [List.length_append]; omega)]; congr 1; rw [List.length_append]; omega
    have hdl : ∀ k, ((I ++ F) ++ E).drop (a + k) = E.drop k := fun k => by
      rw [List.drop_append, List.drop_of_length_le (by rw [List.length_append]; omega)]
      simp; congr 1; omega
    rw [hs]
    have h0 := hgl 0
    rw [Nat.add_zero] at h0
    rw [h0, hgl 1]
    rcases hE with rfl | ⟨c, g, d, hc, rfl, hg', hd'⟩
    · rw [if_neg (by simp)]
      simp; omega
    · rw [if_pos (by rcases isE_iff.1 hc with rfl | rfl <;> simp)]
      obtain ⟨b, r, rfl, hb⟩ := figs_head hd'
      obtain ⟨hd2, _⟩ := figs_iff.1 hd'
      have hrn := runN_app (d := b :: r) (R := []) hd2 (by simp)
      rw [List.append_nil] at hrn
      rcases hg' with rfl | rfl | rfl
      · have hb43 : b ≠ 43 := fun e => by subst e; exact absurd hb (by decide)
        have hb45 : b ≠ 45 := fun e => by subst e; exact absurd hb (by decide)
        have hcd : ¬ ((c :: (([] : Bs) ++ b :: r))[1]? = some 43 ∨ (c :: (([] : Bs) ++ b :: r))[1]? = some 45) := by simp; exact ⟨hb43, hb45⟩
        simp only [if_neg hcd, hdl 1]
        simp only [List.nil_append, List.drop_succ_cons, List.drop_zero, hrn]
        rw [if_neg (by simp)]
        simp; omega
      · have hcd : ((c :: (([43] : Bs) ++ b :: r))[1]? = some 43 ∨ (c :: (([43] : Bs) ++ b :: r))[1]? = some 45) := by simp
        simp only [if_pos hcd, hdl 2]
        simp only [List.cons_append, List.nil_append, List.drop_succ_cons, List.drop_zero, hrn]
        rw [if_neg (by simp)]
        simp; omega
      · have hcd : ((c :: (([45] : Bs) ++ b :: r))[1]? = some 43 ∨ (c :: (([45] : Bs) ++ b :: r))[1]? = some 45) := by simp
        simp only [if_pos hcd, hdl 2]
        simp only [List.cons_append, List.nil_append, List.drop_succ_cons, List.drop_zero, hrn]
        rw [if_neg (by simp)]
        simp; omega
  rcases hF with rfl | ⟨d, rfl, hd⟩
  · have h46 : ¬ (E[0]? = some 46) := by
      rcases hE with rfl | ⟨c, g, d, hc, rfl, hg', hd'⟩
      · simp
      · rcases isE_iff.1 hc with rfl | rfl <;> simp
    simp only [List.nil_append] at *
    rw [if_neg (fun e => h46 e.1)]
    simp only [if_neg h46]
    exact key _ (by simp)
  · obtain ⟨hd2, hd3⟩ := figs_iff.1 hd
    have hrn := runN_app hd2 hEh
    have hp := List.length_pos_iff.2 hd3
    have e1 : ((46 :: d) ++ E)[0]? = some 46 := rfl
    have e2 : ((46 :: d) ++ E).drop 1 = d ++ E := rfl
    rw [e1, e2, hrn, if_neg (by omega)]
    simp only [if_true]
    exact key _ (by simp; omega)
theorem floatOk_FL {s : Bs} (h : floatOk s = true) : FL s := by
  unfold floatOk at h
  have hle := intEnd_le s
  split at h
  · cases h
  next h1 =>
  split at h
  · cases h
  next h2 =>
  have hI := intEnd_take (s := s) (by omega) (by omega)
  generalize intEnd s = a at *
  have hrl := runN_le (s.drop (a + 1))
  rw [List.length_drop] at hrl
  have hal : a < s.length := by omega
  have hF : ∃ F a2, (if s[a]? = some 46 then a + 1 + runN (s.drop (a + 1)) else a) = a2 ∧ a2 ≤ s.length ∧ s.drop a = F ++ s.drop a2 ∧ (F = [] ∨ ∃ d, F = 46 :: d ∧ figs d = true) ∧ (F = [] → a2 = a) := by
    by_cases h46 : s[a]? = some 46
    · rw [if_pos h46]
      refine ⟨46 :: (s.drop (a + 1)).take (runN (s.drop (a + 1))), _, rfl, by omega, ?_, .inr ⟨_, rfl, figs_iff.2 ⟨runN_take _, ?_⟩⟩, fun e => by cases e⟩
      · rw [drop_cons h46, List.cons_append]
        congr 1
        have e : s.drop (a + 1 + runN (s.drop (a + 1))) = (s.drop (a + 1)).drop (runN (s.drop (a + 1))) := by rw [List.drop_drop]
        rw [e, List.take_append_drop]
      · intro e
        have := congrArg List.length e
        simp at this
        have hn : runN (s.drop (a + 1)) ≠ 0 := fun e => h2 ⟨h46, e⟩
        omega
    · rw [if_neg h46]
      exact ⟨[], a, rfl, by omega, rfl, .inl rfl, fun _ => rfl⟩
  obtain ⟨F, a2, e2, hl2, hd, hF1, hF2⟩ := hF
  simp only [e2] at h
  have hE : s.drop a2 = [] ∨ ∃ c g d, isE c = true ∧ s.drop a2 = c :: (g ++ d) ∧ (g = [] ∨ g = [43] ∨ g = [45]) ∧ figs d = true := by
    split at h
    · next hc =>
      right
      obtain ⟨c, hx, hc⟩ : ∃ c, s[a2]? = some c ∧ isE c = true := by
        rcases hc with hc | hc
        · exact ⟨_, hc, by decide⟩
        · exact ⟨_, hc, by decide⟩
      have fin : ∀ p, runN (s.drop p) ≠ 0 → p + runN (s.drop p) = s.length → figs (s.drop p) = true := fun p h1 h2 => by
        refine figs_iff.2 ⟨runN_all.1 (by rw [List.length_drop]; omega), fun e => ?_⟩
        rw [e] at h1; exact h1 rfl
      by_cases hs : s[a2 + 1]? = some 43 ∨ s[a2 + 1]? = some 45
      · rw [if_pos hs] at h
        split at h
        · cases h
        · next hn =>
          simp only [decide_eq_true_eq] at h
          rcases hs with hs | hs
          · exact ⟨c, [43], s.drop (a2 + 2), hc, by rw [drop_cons hx, drop_cons hs]; rfl, .inr (.inl rfl), fin _ hn h⟩
          · exact ⟨c, [45], s.drop (a2 + 2), hc, by rw [drop_cons hx, drop_cons hs]; rfl, .inr (.inr rfl), fin _ hn h⟩
      · rw [if_neg hs] at h
        split at h
        · cases h
        · next hn =>
          simp only [decide_eq_true_eq] at h
          exact ⟨c, [], s.drop (a2 + 1), hc, by rw [drop_cons hx]; rfl, .inl rfl, fin _ hn h⟩
    · simp only [decide_eq_true_eq] at h
      left; rw [h]; exact drop_nil (Nat.le_refl _)
  refine ⟨by omega, s.take a, F, s.drop a2, ?_, hI, hF1, hE, ?_⟩
  · rw [← hd, List.take_append_drop]
  · by_cases hFn : F = []
    · right
      rw [hF2 hFn]
      intro e
      have := congrArg List.length e
      simp at this; omega
    · exact .inl hFn
theorem intOk_mem {I : Bs} (h : intOk I = true) : ∀ b ∈ I, isFig b = true ∨ b = 45 := by
  obtain ⟨h1, h2, h3⟩ := (intOk_split I).1 h
  have hrl := runN_le (I.drop (atSign I))
  rw [List.length_drop] at hrl
  have hall : (I.drop (atSign I)).all isFig = true := by
    apply runN_all.1
    rw [List.length_drop]
    unfold intEnd at h3
    split at h3 <;> omega
  intro b hb
  rw [← List.take_append_drop (atSign I) I, List.mem_append] at hb
  rcases hb with hb | hb
  · right
    rcases atSign_cases I with ⟨ha, ha2⟩ | ⟨ha, ha2⟩
    · rw [ha2, List.take_add_one, ha] at hb
      simpa using hb
    · rw [ha2] at hb; simp at hb
  · left; exact List.all_eq_true.1 hall b hb
theorem floatI_FL {s : Bs} (h : floatI s = true) : FL s := by
  unfold floatI at h
  split at h
  · cases h
  next h40 =>
  have front : ∀ A : Bs, intOk (cutB A 46).1 = true → (!(cutB A 46).2.2 || figs (cutB A 46).2.1) = true → ∃ I F, A = I ++ F ∧ intOk I = true ∧ (F = [] ∨ ∃ d, F = 46 :: d ∧ figs d = true) ∧ ((cutB A 46).2.2 = true → F ≠ []) := by
    intro A h1 h2
    rcases cutB_eq A 46 with ⟨_, e⟩ | ⟨B, R, e1, _, e⟩
    · rw [e] at h1; exact ⟨A, [], by simp, h1, .inl rfl, by rw [e]; simp⟩
    · rw [e] at h1 h2; exact ⟨B, 46 :: R, e1, h1, .inr ⟨R, rfl, by simpa using h2⟩, by simp⟩
  rcases indexAny_cases s [101, 69] with ⟨h1, h2⟩ | ⟨i, x, h1, h2, h3, h4⟩
  · rw [h1] at h
    simp only [show ¬ ((0 : Int) ≤ -1) by omega, if_false, false_and, decide_false, Bool.or_false, Bool.and_eq_true] at h
    obtain ⟨I, F, e1, e2, e3, e4⟩ := front s h.1.1 h.2
    exact ⟨by omega, I, F, [], by simpa using e1, e2, e3, .inl rfl, .inl (e4 h.1.2)⟩
  · rw [h1] at h
    have hz : (0 : Int) ≤ (i : Nat) := by omega
    simp only [hz, if_true, true_and, Int.toNat_natCast, decide_true, Bool.or_true, Bool.and_true] at h
    split at h
    · cases h
    next hf =>
    simp only [Bool.and_eq_true] at h
    obtain ⟨I, F, e1, e2, e3, e4⟩ := front (s.take i) h.1 h.2
    have hpw : figs (stripSign (s.drop (i + 1))) = true := by simpa using hf
    have hg : ∃ g, s.drop (i + 1) = g ++ stripSign (s.drop (i + 1)) ∧ (g = [] ∨ g = [43] ∨ g = [45]) := by
      unfold stripSign
      split
      · next hs =>
        cases hd : s.drop (i + 1) with
        | nil => rw [hd] at hs; simp at hs
        | cons b r =>
          rw [hd] at hs; simp at hs
          refine ⟨[b], by simp, ?_⟩
          rcases hs with rfl | rfl <;> simp
      · exact ⟨[], rfl, .inl rfl⟩
    obtain ⟨g, eg, hg⟩ := hg
    refine ⟨by omega, I, F, s.drop i, ?_, e2, e3, .inr ⟨x, g, stripSign (s.drop (i + 1)), h3, ?_, hg, hpw⟩, .inr ?_⟩
    · rw [← List.append_assoc, ← e1, List.take_append_drop]
    · rw [drop_cons h2, ← eg]
    · rw [drop_cons h2]; simp
theorem FL_floatI {s : Bs} (h : FL s) : floatI s = true := by
  obtain ⟨h40, I, F, E, rfl, hI, hF, hE, hFE⟩ := h
  have hIm := intOk_mem hI
  have hFm : ∀ b ∈ F, isFig b = true ∨ b = 46 := by
    rcases hF with rfl | ⟨d, rfl, hd⟩
    · simp
    · intro b hb
      rcases List.mem_cons.1 hb with rfl | hb
      · exact .inr rfl
      · exact .inl (List.all_eq_true.1 (figs_iff.1 hd).1 b hb)
  have hnoE : ∀ b ∈ I ++ F, ([101, 69] : Bs).contains b = false := by
    intro b hb
    have : isFig b = true ∨ b = 45 ∨ b = 46 := by
      rcases List.mem_append.1 hb with hb | hb
      · rcases hIm b hb with h | h
        · exact .inl h
        · exact .inr (.inl h)
      · rcases hFm b hb with h | h
        · exact .inl h
        · exact .inr (.inr h)
    rcases this with h | rfl | rfl
    · have e1 : b ≠ 101 := fun e => by subst e; exact absurd h (by decide)
      have e2 : b ≠ 69 := fun e => by subst e; exact absurd h (by decide)
      simp [e1, e2]
    · decide
    · decide
  have h46 : (46 : UInt8) ∉ I := fun hm => by rcases hIm _ hm with h | h <;> exact absurd h (by decide)
  have hcut : cutB (I ++ F) 46 = (I, F.drop 1, decide (F ≠ [])) := by
    rcases hF with rfl | ⟨d, rfl, hd⟩
    · rw [List.append_nil, cutB_no h46]; rfl
    · rw [cutB_app h46]; rfl
  have hfr : (!decide (F ≠ []) || figs (F.drop 1)) = true := by
    rcases hF with rfl | ⟨d, rfl, hd⟩
    · simp
    · simpa using hd
  rw [← List.append_assoc] at *
  unfold floatI
  rw [if_neg (by omega)]
  rcases hE with rfl | ⟨c, g, d, hc, rfl, hg, hd⟩
  · have hi : Lib.indexAny (I ++ F ++ []) [101, 69] = -1 := by
      rcases indexAny_cases (I ++ F ++ []) [101, 69] with ⟨h1, _⟩ | ⟨i, x, h1, h2, h3, h4⟩
      · exact h1
      · rw [List.append_nil] at h2
        have := hnoE x (List.mem_of_getElem? h2)
        rw [h3] at this; cases this
    have hF2 : F ≠ [] := by rcases hFE with h | h
                            · exact h
                            · exact absurd rfl h
    rw [hi]
    simp only [show ¬ ((0 : Int) ≤ -1) by omega, if_false, false_and, decide_false, Bool.or_false, List.append_nil]
    rw [hcut, hI, hfr]
    simpa using hF2
  · have hi : Lib.indexAny (I ++ F ++ c :: (g ++ d)) [101, 69] = ((I ++ F).length : Nat) := by
      rcases indexAny_cases (I ++ F ++ c :: (g ++ d)) [101, 69] with ⟨_, h1⟩ | ⟨i, x, h1, h2, h3, h4⟩
      · have := h1 c (by simp)
        unfold isE at hc; rw [hc] at this; cases this
      · rw [h1]
        rcases Nat.lt_trichotomy i (I ++ F).length with h | h | h
        · rw [List.getElem?_append_left h] at h2
          have := hnoE x (List.mem_of_getElem? h2)
          rw [h3] at this; cases this
        · rw [h]
        · have := h4 c (by
            rw [List.take_append, List.mem_append]; right
            obtain ⟨k, hk⟩ : ∃ k, i - (I ++ F).length = k + 1 := ⟨i - (I ++ F).length - 1, by omega⟩
            rw [hk]; simp)
          unfold isE at hc; rw [hc] at this; cases this
    rw [hi]
    have hz : (0 : Int) ≤ ((I ++ F).length : Nat) := by omega
    simp only [hz, if_true, true_and, Int.toNat_natCast, decide_true, Bool.or_true, Bool.and_true]
    have e1 : (I ++ F ++ c :: (g ++ d)).take (I ++ F).length = I ++ F := List.take_left' rfl
    have e2 : (I ++ F ++ c :: (g ++ d)).drop ((I ++ F).length + 1) = g ++ d := by rw [List.drop_append]; simp
    have e3 : stripSign (g ++ d) = d := by
      obtain ⟨b, r, rfl, hb⟩ := figs_head hd
      have hb43 : b ≠ 43 := fun e => by subst e; exact absurd hb (by decide)
      have hb45 : b ≠ 45 := fun e => by subst e; exact absurd hb (by decide)
      unfold stripSign
      rcases hg with rfl | rfl | rfl
      · rw [if_neg (by simp; exact ⟨hb43, hb45⟩)]; rfl
      · rw [if_pos (by simp)]; rfl
      · rw [if_pos (by simp)]; rfl
    rw [e1, e2, e3, hd, hcut, hI, hfr]
    simp
theorem floatI_eq (s : Bs) : floatI s = floatOk s := by
  rw [Bool.eq_iff_iff]
  exact ⟨fun h => FL_floatOk (floatI_FL h), fun h => FL_floatI (floatOk_FL h)⟩
theorem gd43 {s : Bs} {i : Nat} : (((s[i]?.getD 0).toNat : Int) = 43) = (s[i]? = some 43) := propext (getD_u8 (n := 43) (by omega) (by omega))
theorem gd45 {s : Bs} {i : Nat} : (((s[i]?.getD 0).toNat : Int) = 45) = (s[i]? = some 45) := propext (getD_u8 (n := 45) (by omega) (by omega))
theorem gd46 {s : Bs} {i : Nat} : (((s[i]?.getD 0).toNat : Int) = 46) = (s[i]? = some 46) := propext (getD_u8 (n := 46) (by omega) (by omega))
theorem gd48 {s : Bs} {i : Nat} : (((s[i]?.getD 0).toNat : Int) = 48) = (s[i]? = some 48) := propext (getD_u8 (n := 48) (by omega) (by omega))
theorem gd101 {s : Bs} {i : Nat} : (((s[i]?.getD 0).toNat : Int) = 101) = (s[i]? = some 101) := propext (getD_u8 (n := 101) (by omega) (by omega))
theorem gd69 {s : Bs} {i : Nat} : (((s[i]?.getD 0).toNat : Int) = 69) = (s[i]? = some 69) := propext (getD_u8 (n := 69) (by omega) (by omega))
theorem c_FloatOk (s : Bs) (K) : Ct Tryz.prog 154 [.str s] K (.bool (floatOk s)) K := by
  rw [← floatI_eq]
  generalize hr : floatI s = r
  unfold floatI at hr
  refine ct_fn { n0 := 9, ex := [], tk := [14, 39, 43, 48, 61] } Tryz.func154 rfl (by kernel_rfl) (by kernel_rfl) rfl ?_
  simp -implicitDefEqProofs [Tryz.f154]
  intro hml
  refine ⟨fun h => ?_, fun h => ?_⟩
  · rw [if_pos (by omega)] at hr; exact hr.symm
  rw [if_neg (by omega)] at hr
  refine callK_of (c_IndexAny2 s 101 69 (by decide) (by decide) (by omega) _) ?_
  have hcs := indexAny_cases s [101, 69]
  generalize Lib.indexAny s [101, 69] = i at *
  rcases hcs with ⟨rfl, _⟩ | ⟨k, x, rfl, hk, _⟩
  · simp only [show ¬ ((0 : Int) ≤ -1) by omega, if_false, false_and, decide_false, Bool.or_false] at hr
    simp -implicitDefEqProofs
    refine callK_of (c_Cut1 s 46 (by omega) _) ?_
    generalize cutB s 46 = c at *
    simp -implicitDefEqProofs
    refine callK_of (c_IntOk c.1 _) ?_
    simp -implicitDefEqProofs
    refine callK_still (fun _ => c_figures c.2.1 _) ?_
    simp -implicitDefEqProofs
    exact hr.symm
  · have hklt : k < s.length := (List.getElem?_eq_some_iff.1 hk).1
    have hz : (0 : Int) ≤ (k : Nat) := by omega
    simp only [hz, if_true, true_and, Int.toNat_natCast, decide_true, Bool.or_true, Bool.and_true] at hr
    simp -implicitDefEqProofs
    refine wRun_draw true rfl (by decide +kernel) ?_
    obtain ⟨k1, hk1⟩ : ∃ k1, k + 1 = k1 := ⟨_, rfl⟩
    have w1 : IntKind.i64.wrap ((k : Int) + 1) = (k1 : Int) := by rw [wrap64 (by omega) (by omega)]; omega
    rw [hk1] at hr
    have hk1l : k1 ≤ s.length := by omega
    have sl1 : List.take (s.length - k1) (s.drop k1) = s.drop k1 := List.take_of_length_le (by rw [List.length_drop]; omega)
    have sl2 : (s.take s.length).drop k1 = s.drop k1 := by rw [List.take_length]
    have hpl : (s.drop k1).length = s.length - k1 := List.length_drop
    have hkl : k ≤ s.length := by omega
    have hdl : (s.drop k1)[0]? = s[k1]? := by rw [List.getElem?_drop]; rfl
    by_cases hsg : s[k1]? = some 43 ∨ s[k1]? = some 45
    · have est : stripSign (s.drop k1) = (s.drop k1).tail := by unfold stripSign; rw [hdl, if_pos hsg, List.drop_one]
      rw [est] at hr
      obtain ⟨y, hy, hyy⟩ : ∃ y, s[k1]? = some y ∧ ((y.toNat : Int) = 43 ∨ (y.toNat : Int) = 45) := by
        rcases hsg with h | h
        · exact ⟨_, h, .inl rfl⟩
        · exact ⟨_, h, .inr rfl⟩
      have h3l : k1 < s.length := (List.getElem?_eq_some_iff.1 hy).1
      have hye2 : s[k1]'h3l = y := (List.getElem?_eq_some_iff.1 hy).2
      have h3l2 : 0 < s.length - k1 := by omega
      have h3l3 : (1 : Int) ≤ ((s.length - k1 : Nat) : Int) := by omega
      have ctail := c_figures (s.drop k1).tail
      simp -implicitDefEqProofs [w1, sl1, sl2, hk1l, hkl, h3l, hye2, hyy, h3l2, h3l3]
      refine ⟨?_, fun h5 h6 => absurd hyy (by omega)⟩
      rw [List.tail_drop] at hr
      refine callK_of (c_figures (s.drop (k1 + 1)) _) ?_
      simp -implicitDefEqProofs
      refine ⟨fun h => ?_, fun h => ?_⟩
      · rw [if_pos (by simpa using h)] at hr; exact hr.symm
      · rw [if_neg (by simpa using h)] at hr
        refine callK_of (c_Cut1 (s.take k) 46 (by rw [List.length_take]; omega) _) ?_
        generalize cutB (s.take k) 46 = c at *
        simp -implicitDefEqProofs
        refine callK_of (c_IntOk c.1 _) ?_
        simp -implicitDefEqProofs
        refine callK_still (fun _ => c_figures c.2.1 _) ?_
        simp -implicitDefEqProofs
        exact hr.symm
    · have est : stripSign (s.drop k1) = s.drop k1 := by unfold stripSign; rw [hdl, if_neg hsg]
      rw [est] at hr
      have g43 : ¬ (((s[k1]?.getD 0).toNat : Int) = 43) := fun e => hsg (.inl (by rw [gd43] at e; exact e))
      have g45 : ¬ (((s[k1]?.getD 0).toNat : Int) = 45) := fun e => hsg (.inr (by rw [gd45] at e; exact e))
      simp -implicitDefEqProofs [w1, sl1, sl2, hk1l, hkl, g43, g45]
      refine ⟨fun h => by omega, ?_⟩
      refine callK_of (c_figures (s.drop k1) _) ?_
      simp -implicitDefEqProofs
      refine ⟨fun h => ?_, fun h => ?_⟩
      · rw [if_pos (by simpa using h)] at hr; exact hr.symm
      · rw [if_neg (by simpa using h)] at hr
        refine callK_of (c_Cut1 (s.take k) 46 (by rw [List.length_take]; omega) _) ?_
        generalize cutB (s.take k) 46 = c at *
        simp -implicitDefEqProofs
        refine callK_of (c_IntOk c.1 _) ?_
        simp -implicitDefEqProofs
        refine callK_still (fun _ => c_figures c.2.1 _) ?_
        simp -implicitDefEqProofs
        exact hr.symm
theorem c_FloatOkS (s : Bs) (hs : s.length ≤ 1000000000) (K) : Ct Tryz.prog 139 [.str s] K (.bool (floatOk s)) K := by
  generalize hr : floatOk s = r
  unfold floatOk at hr
  have hle := intEnd_le s
  have ci := fun K => c_l03Int s hs K
  generalize intEnd s = a at *
  by_cases h1 : 40 < s.length ∨ a = 0 ∨ a = s.length
  · rw [if_pos h1] at hr
    refine ct_fn { n0 := 6, ex := [], tk := [7, 28, 72] } Tryz.func139 rfl (by kernel_rfl) (by kernel_rfl) rfl ?_
    simp -implicitDefEqProofs [Tryz.f139]
    refine callK_of (ci _) ?_
    simp -implicitDefEqProofs
    intro _ _
    exact ⟨fun _ => hr.symm, fun h2 h3 h4 => absurd h1 (by omega)⟩
  rw [if_neg h1] at hr
  have halt : a < s.length := by omega
  have wa1 : IntKind.i64.wrap ((a : Int) + 1) = (a + 1 : Nat) := by rw [wrap64 (by omega) (by omega)]; rfl
  have hl40 : ¬ (40 < (s.length : Int)) := by omega
  have hl40' : (s.length : Int) ≤ 40 := by omega
  have ha0 : ¬ a = 0 := by omega
  have hal : ¬ (a : Int) = s.length := by omega
  by_cases h46 : s[a]? = some 46
  · have hxe : s[a]'halt = 46 := (List.getElem?_eq_some_iff.1 h46).2
    simp only [h46, true_and, if_true] at hr
    obtain ⟨q, hq⟩ : ∃ q, a + 1 = q := ⟨_, rfl⟩
    have wq : IntKind.i64.wrap ((a : Int) + 1) = (q : Int) := by rw [wrap64 (by omega) (by omega)]; omega
    rw [hq] at hr
    have cr := fun K => c_l03Run s q hs (by omega) K
    have hrl := runN_le (s.drop q)
    rw [List.length_drop] at hrl
    generalize runN (s.drop q) = n at *
    refine ct_fn { n0 := 6, ex := [], tk := [7, 28, 72] } Tryz.func139 rfl (by kernel_rfl) (by kernel_rfl) rfl ?_
    simp -implicitDefEqProofs [Tryz.f139]
    refine callK_of (ci _) ?_
    simp -implicitDefEqProofs [hl40, hl40', ha0, hal, halt, hxe, h46, wq, gd46]
    intro _
    obtain ⟨a2, ha2⟩ : ∃ a2, q + n = a2 := ⟨_, rfl⟩
    rw [ha2] at hr cr
    by_cases hn : n = 0
    · rw [if_pos hn] at hr
      subst hr
      refine callK_of (cr _) ?_
      have e : a2 = q := by omega
      simp -implicitDefEqProofs [e, wq]
    rw [if_neg hn] at hr
    have hna : ¬ (a2 : Int) = (q : Int) := by omega
    refine callK_of (cr _) ?_
    obtain ⟨p1, hp1⟩ : ∃ p1, a2 + 1 = p1 := ⟨_, rfl⟩
    obtain ⟨p2, hp2⟩ : ∃ p2, a2 + 2 = p2 := ⟨_, rfl⟩
    rw [hp1, hp2] at hr
    have v1 : IntKind.i64.wrap ((a2 : Int) + 1) = (p1 : Int) := by rw [wrap64 (by omega) (by omega)]; omega
    have v2 : IntKind.i64.wrap ((p1 : Int) + 1) = (p2 : Int) := by rw [wrap64 (by omega) (by omega)]; omega
    by_cases hee : s[a2]? = some 101 ∨ s[a2]? = some 69
    · rw [if_pos hee] at hr
      obtain ⟨x, hx, hxx⟩ : ∃ x, s[a2]? = some x ∧ ((x.toNat : Int) = 101 ∨ (x.toNat : Int) = 69) := by
        rcases hee with h | h
        · exact ⟨_, h, .inl rfl⟩
        · exact ⟨_, h, .inr rfl⟩
      have h2l : a2 < s.length := (List.getElem?_eq_some_iff.1 hx).1
      have hxe2 : s[a2]'h2l = x := (List.getElem?_eq_some_iff.1 hx).2
      by_cases hsg : s[p1]? = some 43 ∨ s[p1]? = some 45
      · rw [if_pos hsg] at hr
        obtain ⟨y, hy, hyy⟩ : ∃ y, s[p1]? = some y ∧ ((y.toNat : Int) = 43 ∨ (y.toNat : Int) = 45) := by
          rcases hsg with h | h
          · exact ⟨_, h, .inl rfl⟩
          · exact ⟨_, h, .inr rfl⟩
        have h3l : p1 < s.length := (List.getElem?_eq_some_iff.1 hy).1
        have hye2 : s[p1]'h3l = y := (List.getElem?_eq_some_iff.1 hy).2
        have ct := fun K => c_l03Run s p2 hs (by omega) K
        generalize runN (s.drop p2) = n2 at *
        simp -implicitDefEqProofs [v1, v2, hxe2, h2l, hxx, hye2, h3l, hyy, hna, wq]
        intros
        refine ⟨fun _ => ⟨callK_of (ct _) ?_, fun h6 h7 => absurd hyy (by omega)⟩, fun h5 h6 => absurd hxx (by omega)⟩
        simp -implicitDefEqProofs
        refine ⟨fun h => ?_, fun h => ?_⟩
        · rw [if_pos (by omega)] at hr; exact hr.symm
        · rw [if_neg (by omega)] at hr; rw [← hr]; simp; omega
      · rw [if_neg hsg] at hr
        have ct := fun K => c_l03Run s p1 hs (by omega) K
        generalize runN (s.drop p1) = n2 at *
        have g43 : ¬ (((s[p1]?.getD 0).toNat : Int) = 43) := fun e => hsg (.inl (by rw [gd43] at e; exact e))
        have g45 : ¬ (((s[p1]?.getD 0).toNat : Int) = 45) := fun e => hsg (.inr (by rw [gd45] at e; exact e))
        simp -implicitDefEqProofs [v1, v2, hxe2, h2l, hxx, g43, g45, hna, wq]
        intros
        refine ⟨fun _ => callK_of (ct _) ?_, fun h5 h6 => absurd hxx (by omega)⟩
        simp -implicitDefEqProofs
        refine ⟨fun h => ?_, fun h => ?_⟩
        · rw [if_pos (by omega)] at hr; exact hr.symm
        · rw [if_neg (by omega)] at hr; rw [← hr]; simp; omega
    · rw [if_neg hee] at hr
      have g101 : ¬ (((s[a2]?.getD 0).toNat : Int) = 101) := fun e => hee (.inl (by rw [gd101] at e; exact e))
      have g69 : ¬ (((s[a2]?.getD 0).toNat : Int) = 69) := fun e => hee (.inr (by rw [gd69] at e; exact e))
      simp -implicitDefEqProofs [v1, v2, g101, g69, hna, wq]
      intros
      rw [← hr]; simp; omega
  · have hxe : ¬ s[a]'halt = 46 := fun e => h46 (by rw [List.getElem?_eq_getElem halt, e])
    simp only [h46, false_and, if_false] at hr
    have g46 : ¬ (((s[a]?.getD 0).toNat : Int) = 46) := fun e => h46 (by rw [gd46] at e; exact e)
    obtain ⟨a2, ha2⟩ : ∃ a2, a = a2 := ⟨_, rfl⟩
    subst ha2
    refine ct_fn { n0 := 6, ex := [], tk := [7, 28, 72] } Tryz.func139 rfl (by kernel_rfl) (by kernel_rfl) rfl ?_
    simp -implicitDefEqProofs [Tryz.f139]
    refine callK_of (ci _) ?_
    obtain ⟨p1, hp1⟩ : ∃ p1, a + 1 = p1 := ⟨_, rfl⟩
    obtain ⟨p2, hp2⟩ : ∃ p2, a + 2 = p2 := ⟨_, rfl⟩
    rw [hp1, hp2] at hr
    have v1 : IntKind.i64.wrap ((a : Int) + 1) = (p1 : Int) := by rw [wrap64 (by omega) (by omega)]; omega
    have v2 : IntKind.i64.wrap ((p1 : Int) + 1) = (p2 : Int) := by rw [wrap64 (by omega) (by omega)]; omega
    by_cases hee : s[a]? = some 101 ∨ s[a]? = some 69
    · rw [if_pos hee] at hr
      obtain ⟨x, hx, hxx⟩ : ∃ x, s[a]? = some x ∧ ((x.toNat : Int) = 101 ∨ (x.toNat : Int) = 69) := by
        rcases hee with h | h
        · exact ⟨_, h, .inl rfl⟩
        · exact ⟨_, h, .inr rfl⟩
      have h2l : a < s.length := (List.getElem?_eq_some_iff.1 hx).1
      have hxe2 : s[a]'h2l = x := (List.getElem?_eq_some_iff.1 hx).2
      have n46 : ¬ (x.toNat : Int) = 46 := by omega
      by_cases hsg : s[p1]? = some 43 ∨ s[p1]? = some 45
      · rw [if_pos hsg] at hr
        obtain ⟨y, hy, hyy⟩ : ∃ y, s[p1]? = some y ∧ ((y.toNat : Int) = 43 ∨ (y.toNat : Int) = 45) := by
          rcases hsg with h | h
          · exact ⟨_, h, .inl rfl⟩
          · exact ⟨_, h, .inr rfl⟩
        have h3l : p1 < s.length := (List.getElem?_eq_some_iff.1 hy).1
        have hye2 : s[p1]'h3l = y := (List.getElem?_eq_some_iff.1 hy).2
        have ct := fun K => c_l03Run s p2 hs (by omega) K
        generalize runN (s.drop p2) = n2 at *
        simp -implicitDefEqProofs [v1, v2, hxe2, h2l, hxx, hye2, h3l, hyy, hl40, hl40', ha0, hal, halt, g46, n46]
        intros
        refine ⟨fun _ => ⟨callK_of (ct _) ?_, fun h6 h7 => absurd hyy (by omega)⟩, fun h5 h6 => absurd hxx (by omega)⟩
        simp -implicitDefEqProofs
        refine ⟨fun h => ?_, fun h => ?_⟩
        · rw [if_pos (by omega)] at hr; exact hr.symm
        · rw [if_neg (by omega)] at hr; rw [← hr]; simp; omega
      · rw [if_neg hsg] at hr
        have ct := fun K => c_l03Run s p1 hs (by omega) K
        generalize runN (s.drop p1) = n2 at *
        have g43 : ¬ (((s[p1]?.getD 0).toNat : Int) = 43) := fun e => hsg (.inl (by rw [gd43] at e; exact e))
        have g45 : ¬ (((s[p1]?.getD 0).toNat : Int) = 45) := fun e => hsg (.inr (by rw [gd45] at e; exact e))
        simp -implicitDefEqProofs [v1, v2, hxe2, h2l, hxx, g43, g45, hl40, hl40', ha0, hal, halt, g46, n46]
        intros
        refine ⟨fun _ => callK_of (ct _) ?_, fun h5 h6 => absurd hxx (by omega)⟩
        simp -implicitDefEqProofs
        refine ⟨fun h => ?_, fun h => ?_⟩
        · rw [if_pos (by omega)] at hr; exact hr.symm
        · rw [if_neg (by omega)] at hr; rw [← hr]; simp; omega
    · rw [if_neg hee] at hr
      have g101 : ¬ (((s[a]?.getD 0).toNat : Int) = 101) := fun e => hee (.inl (by rw [gd101] at e; exact e))
      have g69 : ¬ (((s[a]?.getD 0).toNat : Int) = 69) := fun e => hee (.inr (by rw [gd69] at e; exact e))
      obtain ⟨x, hx⟩ : ∃ x, s[a]? = some x := ⟨_, List.getElem?_eq_getElem halt⟩
      have hx0 : s[a]'halt = x := (List.getElem?_eq_some_iff.1 hx).2
      rw [hx] at g46 g101 g69
      simp only [Option.getD_some] at g46 g101 g69
      simp -implicitDefEqProofs [v1, v2, g101, g69, hl40, hl40', ha0, hal, halt, g46, hx0]
      intros
      rw [← hr]; simp; omega
end Go.Proofs.YtkefgpmnimpcdaaGreatDoor.Abs
