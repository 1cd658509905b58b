/- Texts in blocks: where they end, lines, blanks ahead. No condition. -/
import Derived.Test.YtkefgpmnimpcdaaGreatDoorTxS
import Derived.Test.YtkefgpmnimpcdaaGreatDoorTxC
set_option linter.unusedVariables false
set_option linter.unusedSimpArgs false
namespace Go.Proofs.YtkefgpmnimpcdaaGreatDoor.Abs
open Go
set_option maxHeartbeats 1000000
set_option maxRecDepth 100000
def three (s : Bs) (i : Nat) : Bool := ([34, 34, 34] : Bs).isPrefixOf (s.drop i)
def escThree (s : Bs) (i : Nat) : Bool := ([92, 34, 34, 34] : Bs).isPrefixOf (s.drop i)
theorem escThree_eq (s : Bs) (i : Nat) : escThree s i = (decide (s[i]? = some 92) && three s (i + 1)) := by
  unfold escThree three
  rcases Nat.lt_or_ge i s.length with h | h
  · obtain ⟨b, hb⟩ : ∃ b, s[i]? = some b := ⟨_, List.getElem?_eq_getElem h⟩
    have hd : s.drop i = b :: s.drop (i + 1) := by
      rw [List.drop_eq_getElem_cons h]; rw [(List.getElem?_eq_some_iff.1 hb).2]
    rw [hd, hb]
    have hbq : ((92 : UInt8) == b) = decide (some b = some (92 : UInt8)) := by
      by_cases e : b = 92
      · subst e; rfl
      · rw [decide_eq_false (by simpa using e), beq_eq_false_iff_ne]; exact fun h => e h.symm
    simp only [List.isPrefixOf]
    rw [hbq]
  · rw [List.drop_eq_nil_of_le h, List.getElem?_eq_none h]; simp [List.isPrefixOf]
theorem three_len {s : Bs} {i : Nat} (h : three s i = true) : i + 3 ≤ s.length := by
  unfold three at h
  have := (List.isPrefixOf_iff_prefix.1 h).length_le
  rw [List.length_drop] at this
  simp at this; omega
def blkG : Nat → Bs → Nat → Int
  | 0, _, _ => -1
  | n + 1, s, i => if s.length ≤ i then -1 else if escThree s i then blkG n s (i + 4) else if three s i then ((i + 3 : Nat) : Int) else blkG n s (i + 1)
/-- Where a text in a block that begins at a place ends. -/
def blkEnd (s : Bs) (a : Nat) : Int := if three s a then blkG (s.length + 1) s (a + 3) else -1
theorem blkG_bnd (s : Bs) : ∀ (n i : Nat), blkG n s i = -1 ∨ ((i : Int) + 3 ≤ blkG n s i ∧ blkG n s i ≤ s.length) := by
  intro n; induction n with
  | zero => intro i; exact .inl rfl
  | succ n ih =>
    intro i
    rw [blkG]
    by_cases c : s.length ≤ i
    · rw [if_pos c]; exact .inl rfl
    rw [if_neg c]
    by_cases c1 : escThree s i = true
    · rw [if_pos c1]; have := ih (i + 4); omega
    rw [if_neg c1]
    by_cases c2 : three s i = true
    · rw [if_pos c2]; have := three_len c2; right; omega
    · rw [if_neg c2]; have := ih (i + 1); omega
theorem blkEnd_bnd (s : Bs) (a : Nat) : blkEnd s a = -1 ∨ ((a : Int) + 6 ≤ blkEnd s a ∧ blkEnd s a ≤ s.length) := by
  unfold blkEnd
  split
  · have := blkG_bnd s (s.length + 1) (a + 3); omega
  · exact .inl rfl
theorem three_take (s : Bs) (i : Nat) (h : i + 3 ≤ s.length) : ((s.take (i + 3)).drop i = [34, 34, 34]) ↔ three s i = true := by
  unfold three
  rw [List.isPrefixOf_iff_prefix, List.prefix_iff_eq_take]
  have : (s.take (i + 3)).drop i = (s.drop i).take 3 := by rw [List.drop_take]; congr 1; omega
  rw [this]
  exact ⟨fun h => h.symm, fun h => h.symm⟩
theorem c_l05Three (s : Bs) (i : Nat) (hs : s.length ≤ 1000000000) (hi : i ≤ 1000000000) (K) : Ct Tryz.prog 140 [.str s, .int .i64 i] K (.bool (three s i)) K := by
  have w3 : IntKind.i64.wrap ((i : Int) + 3) = (i + 3 : Nat) := by rw [wrap64 (by omega) (by omega)]; rfl
  refine ct_fn { n0 := 5, ex := [], tk := [] } Tryz.func140 rfl (by kernel_rfl) (by kernel_rfl) rfl ?_
  simp -implicitDefEqProofs [Tryz.f140, w3]
  refine fun _ => ⟨fun h => ⟨by omega, h⟩, ?_⟩
  by_cases c : i + 3 ≤ s.length
  · have c2 : (i : Int) + 3 ≤ s.length := by omega
    have e : ((i : Int) + 3).toNat = i + 3 := by omega
    rw [decide_eq_true c2, Bool.true_and, e, Bool.eq_iff_iff, decide_eq_true_iff]
    exact (three_take s i c).symm
  · have c2 : ¬ (i : Int) + 3 ≤ s.length := by omega
    rw [decide_eq_false c2, Bool.false_and]
    cases h : three s i with
    | false => rfl
    | true => exact absurd (three_len h) c
theorem c_BlockEndS (s : Bs) (a : Nat) (hs : s.length ≤ 100000000) (ha : a ≤ 100000000) (K) : Ct Tryz.prog 141 [.str s, .int .i64 a] K (.int .i64 (blkEnd s a)) K := by
  have th := fun (i : Nat) (h : i ≤ 1000000000) K => c_l05Three s i (by omega) h K
  generalize hR : blkEnd s a = R
  unfold blkEnd at hR
  have w3 : IntKind.i64.wrap ((a : Int) + 3) = (a + 3 : Nat) := by rw [wrap64 (by omega) (by omega)]; rfl
  refine ct_fn { n0 := 6, ex := [], tk := [17, 36, 42] } Tryz.func141 rfl (by kernel_rfl) (by kernel_rfl) rfl ?_
  simp -implicitDefEqProofs [Tryz.f141]
  have a0 : ¬ ((a : Int) < 0) := by omega
  by_cases hlt : a < s.length
  · have hn : ¬ s.length ≤ a := by omega
    simp -implicitDefEqProofs [hlt, hn, a0]
    intro _
    refine callK_still (fun _ => th a (by omega) _) ?_
    cases hth : three s a with
    | false =>
      rw [hth] at hR
      simp -implicitDefEqProofs
      simpa using hR.symm
    | true =>
      have hl3 := three_len hth
      rw [hth, if_pos rfl] at hR
      simp -implicitDefEqProofs [w3]
      obtain ⟨I, hI⟩ : ∃ I : Nat → St → Prop, ∀ m st, I m st ↔ ∃ i n, i ≤ s.length + 3 ∧ m = s.length + 3 - i ∧ s.length - i ≤ n ∧ blkG (n + 1) s i = R ∧
        st = { env := [(0, .str s), (1, .int .i64 a), (4, .int .i64 0), (5, .int .i64 i)], loc := [], K := [] :: K } := ⟨_, fun _ _ => Iff.rfl⟩
      refine wC_loopI I (s.length + 3 - (a + 3)) ((hI _ _).2 ⟨a + 3, s.length, by omega, rfl, by omega, hR, rfl⟩) (St.le_of (by simp) (by simp) rfl (by simp)) ?_
      intro m st hst
      obtain ⟨i, n, hi, rfl, hn2, hRi, rfl⟩ := (hI _ _).1 hst
      clear hst
      rcases Nat.lt_or_ge i s.length with hlt2 | hge2
      · obtain ⟨b, hx⟩ : ∃ b, s[i]? = some b := ⟨_, List.getElem?_eq_getElem hlt2⟩
        have hxe : s[i]'hlt2 = b := (List.getElem?_eq_some_iff.1 hx).2
        have b92 : (b.toNat : Int) = 92 ↔ b = 92 := u8_eq (c := 92)
        have w1 : IntKind.i64.wrap ((i : Int) + 1) = (i + 1 : Nat) := by rw [wrap64 (by omega) (by omega)]; rfl
        have w4 : IntKind.i64.wrap ((i : Int) + 3) = (i + 3 : Nat) := by rw [wrap64 (by omega) (by omega)]; rfl
        have w5 : IntKind.i64.wrap ((i : Int) + 3 + 1) = (i + 4 : Nat) := by rw [wrap64 (by omega) (by omega)]; omega
        have t1 := th (i + 1) (by omega)
        rw [blkG, if_neg (show ¬ s.length ≤ i by omega), escThree_eq, hx] at hRi
        simp -implicitDefEqProofs [hlt2, hx, hxe, b92, w1]
        intro _
        refine callK_still (fun _ => t1 _) ?_
        by_cases c92 : b = 92
        · have n4 := fun (h : three s (i + 1) = true) => three_len h
          cases h1 : three s (i + 1) with
          | true =>
            have n4 := n4 h1
            rw [h1, c92] at hRi
            obtain ⟨n, rfl⟩ : ∃ n', n = n' + 1 := ⟨n - 1, by omega⟩
            simp -implicitDefEqProofs [c92, w4, w5]
            exact ⟨s.length + 3 - (i + 4), by omega, _, St.le_of (by simp) (by simp [St.trunc, look, mapV, mapC, killP]) rfl (by simp [St.trunc, mapC]), (hI _ _).2 ⟨i + 4, n, by omega, rfl, by omega, by simpa using hRi, rfl⟩⟩
          | false =>
            rw [h1] at hRi
            simp -implicitDefEqProofs [c92]
            refine callK_of (th i (by omega) _) ?_
            have hRi : (if three s i then ((i + 3 : Nat) : Int) else blkG n s (i + 1)) = R := by
              simpa using hRi
            cases h2 : three s i with
            | true =>
              rw [h2, if_pos rfl] at hRi
              simp -implicitDefEqProofs [w4]
              omega
            | false =>
              rw [h2, if_neg (by simp)] at hRi
              obtain ⟨n, rfl⟩ : ∃ n', n = n' + 1 := ⟨n - 1, by omega⟩
              simp -implicitDefEqProofs [w1]
              exact ⟨s.length + 3 - (i + 1), by omega, _, St.le_of (by simp) (by simp [St.trunc, look, mapV, mapC, killP]) rfl (by simp [St.trunc, mapC]), (hI _ _).2 ⟨i + 1, n, by omega, rfl, by omega, hRi, rfl⟩⟩
        · simp -implicitDefEqProofs [c92]
          refine callK_of (th i (by omega) _) ?_
          have hRi : (if three s i then ((i + 3 : Nat) : Int) else blkG n s (i + 1)) = R := by
            rw [decide_eq_false (by simpa using c92)] at hRi; simpa using hRi
          cases h2 : three s i with
          | true =>
            rw [h2, if_pos rfl] at hRi
            simp -implicitDefEqProofs [w4]
            omega
          | false =>
            rw [h2, if_neg (by simp)] at hRi
            obtain ⟨n, rfl⟩ : ∃ n', n = n' + 1 := ⟨n - 1, by omega⟩
            simp -implicitDefEqProofs [w1]
            exact ⟨s.length + 3 - (i + 1), by omega, _, St.le_of (by simp) (by simp [St.trunc, look, mapV, mapC, killP]) rfl (by simp [St.trunc, mapC]), (hI _ _).2 ⟨i + 1, n, by omega, rfl, by omega, hRi, rfl⟩⟩
      · have hn2 : ¬ i < s.length := by omega
        rw [blkG, if_pos hge2] at hRi
        simp -implicitDefEqProofs [hn2, hge2]
        try exact fun _ => hRi.symm
  · have hge : s.length ≤ a := by omega
    have hf : three s a = false := by
      cases h : three s a with
      | false => rfl
      | true => have := three_len h; omega
    rw [hf] at hR
    simp -implicitDefEqProofs [hge, hlt, a0]
    intro _
    refine callK_still (r := .bool false) (fun h => absurd h (by simp)) ?_
    simp -implicitDefEqProofs
    simpa using hR.symm
theorem c_BlockEnd (s : Bs) (a : Nat) (hs : s.length ≤ 100000000) (ha : a ≤ 100000000) (K) : Ct Tryz.prog 226 [.str s, .int .i64 a] K (.int .i64 (blkEnd s a)) K := by
  have th := fun (i : Nat) K => c_HasPrefix (s.drop i) [34, 34, 34] K
  have te := fun (i : Nat) K => c_HasPrefix (s.drop i) [92, 34, 34, 34] K
  have hin := fun K => c_in a 0 ((s.length : Int) - 1) K
  generalize hR : blkEnd s a = R
  unfold blkEnd at hR
  have w3 : IntKind.i64.wrap ((a : Int) + 3) = (a + 3 : Nat) := by rw [wrap64 (by omega) (by omega)]; rfl
  have wl : IntKind.i64.wrap ((s.length : Int) - 1) = (s.length : Int) - 1 := wrap64 (by omega) (by omega)
  refine ct_fn { n0 := 6, ex := [], tk := [10, 16, 31, 38] } Tryz.func226 rfl (by kernel_rfl) (by kernel_rfl) rfl ?_
  simp -implicitDefEqProofs [Tryz.f226, wl]
  intro _
  refine callK_of (hin _) ?_
  by_cases hlt : a < s.length
  · have hn : ¬ s.length ≤ a := by omega
    have hir : inR a 0 ((s.length : Int) - 1) = true := by unfold inR; simp; omega
    simp -implicitDefEqProofs [hlt, hn, hir]
    refine ⟨by omega, callK_still (fun _ => th a _) ?_⟩
    rw [show ([34, 34, 34] : Bs).isPrefixOf (s.drop a) = three s a from rfl]
    cases hth : three s a with
    | false =>
      rw [hth] at hR
      simp -implicitDefEqProofs
      simpa using hR.symm
    | true =>
      have hl3 := three_len hth
      rw [hth, if_pos rfl] at hR
      simp -implicitDefEqProofs [w3]
      obtain ⟨I, hI⟩ : ∃ I : Nat → St → Prop, ∀ m st, I m st ↔ ∃ i n, i ≤ s.length + 3 ∧ m = s.length + 3 - i ∧ s.length - i ≤ n ∧ blkG (n + 1) s i = R ∧
        st = { env := [(0, .str s), (1, .int .i64 a), (4, .int .i64 0), (5, .int .i64 i)], loc := [], K := [] :: K } := ⟨_, fun _ _ => Iff.rfl⟩
      refine wC_loopI I (s.length + 3 - (a + 3)) ((hI _ _).2 ⟨a + 3, s.length, by omega, rfl, by omega, hR, rfl⟩) (St.le_of (by simp) (by simp) rfl (by simp)) ?_
      intro m st hst
      obtain ⟨i, n, hi, rfl, hn2, hRi, rfl⟩ := (hI _ _).1 hst
      clear hst
      rcases Nat.lt_or_ge i s.length with hlt2 | hge2
      · have w1 : IntKind.i64.wrap ((i : Int) + 1) = (i + 1 : Nat) := by rw [wrap64 (by omega) (by omega)]; rfl
        have w4 : IntKind.i64.wrap ((i : Int) + 3) = (i + 3 : Nat) := by rw [wrap64 (by omega) (by omega)]; rfl
        have w5 : IntKind.i64.wrap ((i : Int) + 4) = (i + 4 : Nat) := by rw [wrap64 (by omega) (by omega)]; rfl
        rw [blkG, if_neg (show ¬ s.length ≤ i by omega)] at hRi
        simp -implicitDefEqProofs [hlt2]
        intro _
        refine ⟨by omega, callK_of (te i _) ?_⟩
        rw [show ([92, 34, 34, 34] : Bs).isPrefixOf (s.drop i) = escThree s i from rfl]
        cases h1 : escThree s i with
        | true =>
          have n4 : i + 4 ≤ s.length := by
            have h0 := h1
            rw [escThree_eq, Bool.and_eq_true] at h0
            have := three_len h0.2; omega
          rw [h1, if_pos rfl] at hRi
          obtain ⟨n, rfl⟩ : ∃ n', n = n' + 1 := ⟨n - 1, by omega⟩
          simp -implicitDefEqProofs [w5]
          exact ⟨s.length + 3 - (i + 4), by omega, _, St.le_of (by simp) (by simp [St.trunc, look, mapV, mapC, killP]) rfl (by simp [St.trunc, mapC]), (hI _ _).2 ⟨i + 4, n, by omega, rfl, by omega, hRi, rfl⟩⟩
        | false =>
          rw [h1, if_neg (by simp)] at hRi
          simp -implicitDefEqProofs
          refine ⟨by omega, callK_of (th i _) ?_⟩
          rw [show ([34, 34, 34] : Bs).isPrefixOf (s.drop i) = three s i from rfl]
          cases h2 : three s i with
          | true =>
            rw [h2, if_pos rfl] at hRi
            simp -implicitDefEqProofs [w4]
            omega
          | false =>
            rw [h2, if_neg (by simp)] at hRi
            obtain ⟨n, rfl⟩ : ∃ n', n = n' + 1 := ⟨n - 1, by omega⟩
            simp -implicitDefEqProofs [w1]
            exact ⟨s.length + 3 - (i + 1), by omega, _, St.le_of (by simp) (by simp [St.trunc, look, mapV, mapC, killP]) rfl (by simp [St.trunc, mapC]), (hI _ _).2 ⟨i + 1, n, by omega, rfl, by omega, hRi, rfl⟩⟩
      · have hn3 : ¬ i < s.length := by omega
        rw [blkG, if_pos hge2] at hRi
        simp -implicitDefEqProofs [hn3, hge2]
        try exact fun _ => hRi.symm
  · have hge : s.length ≤ a := by omega
    have hf : three s a = false := by
      cases h : three s a with
      | false => rfl
      | true => have := three_len h; omega
    have hir : inR a 0 ((s.length : Int) - 1) = false := by unfold inR; simp; omega
    rw [hf] at hR
    simp -implicitDefEqProofs [hir]
    refine callK_still (r := .bool false) (fun h => absurd h (by simp)) ?_
    simp -implicitDefEqProofs
    simpa using hR.symm
end Go.Proofs.YtkefgpmnimpcdaaGreatDoor.Abs
/- Lines of a text, blanks ahead of a line: the reference. No condition. -/
set_option linter.unusedVariables false
set_option linter.unusedSimpArgs false
namespace Go.Proofs.YtkefgpmnimpcdaaGreatDoor.Abs
open Go
set_option maxHeartbeats 1000000
set_option maxRecDepth 100000
def isWs (b : UInt8) : Bool := decide (b = 32) || decide (b = 9)
/-- How many blanks stand ahead. -/
def indN (l : Bs) : Nat := (l.takeWhile isWs).length
theorem indN_cons {b : UInt8} {l : Bs} : indN (b :: l) = if isWs b then indN l + 1 else 0 := by
  unfold indN; rw [List.takeWhile_cons]; split <;> simp
theorem indN_le (l : Bs) : indN l ≤ l.length := (List.takeWhile_prefix _).length_le
theorem isWs_iff (b : UInt8) : isWs b = (decide ((b.toNat : Int) = 32) || decide ((b.toNat : Int) = 9)) :=
  u8_all (p := fun b => isWs b = (decide ((b.toNat : Int) = 32) || decide ((b.toNat : Int) = 9))) (by decide) b
theorem c_IndentS (l : Bs) (hl : l.length ≤ 1000000000) (K) : Ct Tryz.prog 259 [.str l] K (.int .i64 (indN l : Nat)) K := by
  refine ct_fn { n0 := 4, ex := [], tk := [22] } Tryz.func259 rfl (by kernel_rfl) (by kernel_rfl) rfl ?_
  simp -implicitDefEqProofs [Tryz.f259]
  obtain ⟨I, hI⟩ : ∃ I : Nat → St → Prop, ∀ m st, I m st ↔ ∃ i, i ≤ l.length ∧ m = l.length - i ∧ i + indN (l.drop i) = indN l ∧
    st = { env := [(0, .str l), (2, .int .i64 0), (3, .int .i64 i)], loc := [], K := [] :: K } := ⟨_, fun _ _ => Iff.rfl⟩
  refine wC_loopI I l.length ((hI _ _).2 ⟨0, by omega, rfl, by simp, rfl⟩) (St.le_of (by simp) (by simp) rfl (by simp)) ?_
  intro m st hst
  obtain ⟨i, hi, rfl, hp, rfl⟩ := (hI _ _).1 hst
  clear hst
  rcases Nat.lt_or_ge i l.length with hlt | hge
  · obtain ⟨b, hx⟩ : ∃ b, l[i]? = some b := ⟨_, List.getElem?_eq_getElem hlt⟩
    have hxe : l[i]'hlt = b := (List.getElem?_eq_some_iff.1 hx).2
    have w1 : IntKind.i64.wrap ((i : Int) + 1) = (i + 1 : Nat) := by rw [wrap64 (by omega) (by omega)]; rfl
    have hb := isWs_iff b
    rw [drop_cons hx, indN_cons] at hp
    simp -implicitDefEqProofs [hlt, hxe, hx, w1]
    intro _
    refine ⟨fun h => ?_, fun h1 h2 => ?_⟩
    · have ht : isWs b = true := by rw [hb]; rcases h with h | h <;> rw [decide_eq_true h] <;> simp
      rw [ht, if_pos rfl] at hp
      exact ⟨l.length - (i + 1), by omega, _, St.le_of (by simp) (by simp [St.trunc, look, mapV, mapC, killP]) rfl (by simp [St.trunc, mapC]), (hI _ _).2 ⟨i + 1, by omega, rfl, by omega, rfl⟩⟩
    · have hf : isWs b = false := by rw [hb, decide_eq_false h1, decide_eq_false h2]; rfl
      rw [hf, if_neg (by simp)] at hp
      omega
  · have hn : ¬ i < l.length := by omega
    rw [drop_nil hge] at hp
    simp -implicitDefEqProofs [hn]
    intro _
    have : indN [] = 0 := rfl
    omega
/-- The lines of a text. -/
def linesF : Bool → Bs → List Bs
  | _, [] => [[]]
  | skip, b :: r => if skip && decide (b = 10) then linesF false r else if b = 13 then [] :: linesF true r else if b = 10 then [] :: linesF false r else
    match linesF false r with
    | [] => []
    | l :: ls => (b :: l) :: ls
def preL (p : Bs) : List Bs → List Bs
  | [] => []
  | l :: ls => (p ++ l) :: ls
theorem linesF_ne (r : Bs) : ∀ skip, linesF skip r ≠ [] := by
  induction r with
  | nil => intro skip; simp [linesF]
  | cons b r ih =>
    intro skip
    rw [linesF]
    split
    · exact ih false
    · split
      · simp
      · split
        · simp
        · cases h : linesF false r with
          | nil => exact absurd h (ih false)
          | cons l ls => simp
theorem preL_nil : ∀ ls : List Bs, preL [] ls = ls := by
  intro ls; cases ls <;> simp [preL]
theorem linesF_true {c : UInt8} {r : Bs} (h : c ≠ 10) : linesF true (c :: r) = linesF false (c :: r) := by
  rw [linesF, linesF]; simp [h]
theorem take_snoc {s : Bs} {i b : Nat} {c : UInt8} (hb : b ≤ i) (h : s[i]? = some c) : (s.take (i + 1)).drop b = (s.take i).drop b ++ [c] := by
  have hlt := (List.getElem?_eq_some_iff.1 h).1
  rw [List.take_add_one, h, List.drop_append, List.length_take, Nat.min_eq_left (by omega)]
  simp [show b - i = 0 by omega]
theorem take_none {s : Bs} {i : Nat} (hi : i ≤ s.length) : (s.take i).drop i = [] := by
  rw [List.drop_of_length_le]; rw [List.length_take]; omega
theorem atB (s : Bs) (p : Nat) (c : UInt8) : s[p]? = some c ↔ p < s.length ∧ ((s[p]?.getD 0).toNat : Int) = c.toNat := by
  rcases Nat.lt_or_ge p s.length with h | h
  · obtain ⟨b, hb⟩ : ∃ b, s[p]? = some b := ⟨_, List.getElem?_eq_getElem h⟩
    rw [hb]
    simp only [Option.some.injEq, Option.getD_some, h, true_and]
    exact ⟨fun e => by rw [e], fun e => UInt8.toNat_inj.1 (by omega)⟩
  · rw [List.getElem?_eq_none h]
    simp only [reduceCtorEq, false_iff, not_and]; intro h2; omega
theorem c_LinesInS (s : Bs) (hs : s.length ≤ 1000000) (K) : Ct Tryz.prog 258 [.str s] K (.sl (.of 9) (linesF false s).length (encR .no (tStrS (linesF false s)))) K := by
  generalize hR : linesF false s = R
  refine ct_fn { n0 := 6, ex := [], tk := [6, 23, 28, 29, 52, 56, 57] } Tryz.func258 rfl (by kernel_rfl) (by kernel_rfl) rfl ?_
  simp -implicitDefEqProofs [Tryz.f258]
  obtain ⟨I, hI⟩ : ∃ I : Nat → St → Prop, ∀ m st, I m st ↔ ∃ i b out, b ≤ i ∧ i ≤ s.length ∧ out.length ≤ i ∧ m = s.length - i ∧ out ++ preL ((s.take i).drop b) (linesF false (s.drop i)) = R ∧
    st = { env := [(0, .str s), (2, .sl .nil 0 []), (3, .sl (.of 9) out.length (encR .no (tStrS out))), (4, .int .i64 b), (5, .int .i64 i)], loc := [], K := [] :: K } := ⟨_, fun _ _ => Iff.rfl⟩
  refine wC_loopI I s.length ((hI _ _).2 ⟨0, 0, [], by omega, by omega, by simp, rfl, by simpa [preL_nil] using hR, rfl⟩) (St.le_of (by simp) (by simp [tStrS, encR]) rfl (by simp)) ?_
  intro m st hst
  obtain ⟨i, b, out, hbi, hi, ho, rfl, hRi, rfl⟩ := (hI _ _).1 hst
  clear hst
  have hol : (encR Md.no (tStrS out)).length = out.length := by rw [encStrS_len]; omega
  rcases Nat.lt_or_ge i s.length with hlt | hge
  · obtain ⟨c, hx⟩ : ∃ c, s[i]? = some c := ⟨_, List.getElem?_eq_getElem hlt⟩
    have hxe : s[i]'hlt = c := (List.getElem?_eq_some_iff.1 hx).2
    have w1 : IntKind.i64.wrap ((i : Int) + 1) = (i + 1 : Nat) := by rw [wrap64 (by omega) (by omega)]; rfl
    have w2 : IntKind.i64.wrap ((i : Int) + 1 + 1) = (i + 2 : Nat) := by rw [wrap64 (by omega) (by omega)]; omega
    have c13 : (c.toNat : Int) = 13 ↔ c = 13 := u8_eq (c := 13)
    have c10 : (c.toNat : Int) = 10 ↔ c = 10 := u8_eq (c := 10)
    have hpl : ((s.take i).drop b).length ≤ s.length := by rw [List.length_drop, List.length_take]; omega
    rw [drop_cons hx, linesF] at hRi
    by_cases h13 : c = 13
    · subst h13
      simp -implicitDefEqProofs [hlt, hxe, hx, w1, hol]
      refine fun _ => ⟨⟨hbi, hi⟩, by unfold maxLen; omega, by omega, fun _ => ⟨fun h => ⟨by omega, h⟩, fun h1 h2 => ?_, fun h => ?_⟩⟩
      · have h3 : s[i + 1]? = some 10 := (atB s (i + 1) 10).2 ⟨by omega, h2⟩
        have hRi2 : out ++ (((s.take i).drop b) :: linesF false (s.drop (i + 2))) = R := by
          rw [← hRi]; simp [preL, drop_cons h3, linesF]
        rw [w2]
        exact ⟨s.length - (i + 2), by omega, _, St.le_of (by simp) (by simp [St.trunc, look, mapV, mapC, killP, tStrS_app, encR_app, tStrS, encR, encL, encT]) rfl (by simp [St.trunc, mapC]), (hI _ _).2 ⟨i + 2, i + 2, out ++ [(s.take i).drop b], by omega, by omega, by simp; omega, rfl, by rw [take_none (by omega), preL_nil, ← hRi2]; simp, rfl⟩⟩
      · have h3 : s[i + 1]? ≠ some 10 := fun e => by have := (atB s (i + 1) 10).1 e; exact h (by omega) this.2
        have hRi2 : out ++ (((s.take i).drop b) :: linesF false (s.drop (i + 1))) = R := by
          rw [← hRi]
          have : linesF true (s.drop (i + 1)) = linesF false (s.drop (i + 1)) := by
            rcases Nat.lt_or_ge (i + 1) s.length with hl | hl
            · obtain ⟨d, hd⟩ : ∃ d, s[i + 1]? = some d := ⟨_, List.getElem?_eq_getElem hl⟩
              rw [drop_cons hd]
              exact linesF_true fun e => h3 (e ▸ hd)
            · rw [drop_nil hl]; simp [linesF]
          simp [preL, this]
        exact ⟨s.length - (i + 1), by omega, _, St.le_of (by simp) (by simp [St.trunc, look, mapV, mapC, killP, tStrS_app, encR_app, tStrS, encR, encL, encT]) rfl (by simp [St.trunc, mapC]), (hI _ _).2 ⟨i + 1, i + 1, out ++ [(s.take i).drop b], by omega, by omega, by simp; omega, rfl, by rw [take_none (by omega), preL_nil, ← hRi2]; simp, rfl⟩⟩
    · by_cases h10 : c = 10
      · subst h10
        simp -implicitDefEqProofs [hlt, hxe, hx, w1, hol]
        have hRi2 : out ++ (((s.take i).drop b) :: linesF false (s.drop (i + 1))) = R := by
          rw [← hRi]; simp [preL]
        refine fun _ => ⟨⟨hbi, hi⟩, by unfold maxLen; omega, by omega, ?_⟩
        exact ⟨s.length - (i + 1), by omega, _, St.le_of (by simp) (by simp [St.trunc, look, mapV, mapC, killP, tStrS_app, encR_app, tStrS, encR, encL, encT]) rfl (by simp [St.trunc, mapC]), (hI _ _).2 ⟨i + 1, i + 1, out ++ [(s.take i).drop b], by omega, by omega, by simp; omega, rfl, by rw [take_none (by omega), preL_nil, ← hRi2]; simp, rfl⟩⟩
      · rw [if_neg (by simp), if_neg h13, if_neg h10] at hRi
        simp -implicitDefEqProofs [hlt, hxe, hx, w1, c13, c10, h13, h10]
        refine fun _ => ⟨s.length - (i + 1), by omega, _, St.le_of (by simp) (by simp [St.trunc, look, mapV, mapC, killP]) rfl (by simp [St.trunc, mapC]), (hI _ _).2 ⟨i + 1, b, out, by omega, by omega, by omega, rfl, ?_, rfl⟩⟩
        rw [take_snoc hbi hx, ← hRi]
        cases hl : linesF false (s.drop (i + 1)) with
        | nil => exact absurd hl (linesF_ne _ _)
        | cons l ls => simp [preL]
  · have hn : ¬ i < s.length := by omega
    rw [drop_nil hge, linesF] at hRi
    have hie : i = s.length := by omega
    simp [preL] at hRi
    rw [hie, List.take_of_length_le (Nat.le_refl _)] at hRi
    subst hRi
    simp -implicitDefEqProofs [hn, hol]
    refine fun _ => ⟨by omega, by unfold maxLen; omega, by omega, ?_⟩
    simp [tStrS_app, encR_app, tStrS, encR, encL, encT]
end Go.Proofs.YtkefgpmnimpcdaaGreatDoor.Abs
