/- Tokens: names, numbers: where they end. No condition. -/
import Derived.Test.YtkefgpmnimpcdaaGreatDoorTkC
import Derived.Lib.ReplaceLaws
import Derived.Lib.SlTrimSet
import Derived.Lib.Join
import Derived.Test.YtkefgpmnimpcdaaGreatDoorTxQ
import Derived.Test.YtkefgpmnimpcdaaGreatDoorTxF
set_option linter.unusedVariables false
set_option linter.unusedSimpArgs false
namespace Go.Proofs.YtkefgpmnimpcdaaGreatDoor.Abs
open Go
set_option maxHeartbeats 2000000
set_option maxRecDepth 100000
def isNm (b : UInt8) : Bool := isLet b || isUn b || isFig b
def runW (p : UInt8 → Bool) (l : Bs) : Nat := (l.takeWhile p).length
theorem runW_cons {p : UInt8 → Bool} {b : UInt8} {l : Bs} : runW p (b :: l) = if p b then runW p l + 1 else 0 := by
  unfold runW; rw [List.takeWhile_cons]; split <;> simp
theorem runW_le {p : UInt8 → Bool} {l : Bs} : runW p l ≤ l.length := (List.takeWhile_prefix _).length_le
/-- The place behind a name. -/
def nameEnd (s : Bs) (a : Nat) : Nat := a + runW isNm (s.drop a)
theorem c_l06Name (s : Bs) (a : Nat) (hs : s.length ≤ 1000000000) (ha : a ≤ s.length) (K) : Ct Tryz.prog 134 [.str s, .int .i64 a] K (.int .i64 (nameEnd s a : Nat)) K := by
  refine ct_fn { n0 := 5, ex := [], tk := [13, 18, 23] } Tryz.func134 rfl (by kernel_rfl) (by kernel_rfl) rfl ?_
  simp -implicitDefEqProofs [Tryz.f134]
  obtain ⟨I, hI⟩ : ∃ I : Nat → St → Prop, ∀ m st, I m st ↔ ∃ i, i ≤ s.length ∧ m = s.length - i ∧ nameEnd s i = nameEnd s a ∧
    st = { env := [(0, .str s), (1, .int .i64 i), (4, .int .i64 0)], loc := [], K := [] :: K } := ⟨_, fun _ _ => Iff.rfl⟩
  refine wC_loopI I (s.length - a) ((hI _ _).2 ⟨a, ha, rfl, rfl, rfl⟩) (St.le_of (by simp) (by simp) rfl (by simp)) ?_
  intro m st hst
  obtain ⟨i, hi, rfl, hp, rfl⟩ := (hI _ _).1 hst
  clear hst
  unfold nameEnd at hp ⊢
  rcases Nat.lt_or_ge i s.length with hlt | hge
  · obtain ⟨b, hx⟩ : ∃ b, s[i]? = some b := ⟨_, List.getElem?_eq_getElem hlt⟩
    have hxe : s[i]'hlt = b := (List.getElem?_eq_some_iff.1 hx).2
    have w1 : IntKind.i64.wrap ((i : Int) + 1) = (i + 1 : Nat) := by rw [wrap64 (by omega) (by omega)]; rfl
    rw [drop_cons hx, runW_cons] at hp
    simp -implicitDefEqProofs [hlt, hxe, hx, w1]
    intro _
    refine callK_still (fun _ => c_l03Letter b _) ?_
    simp -implicitDefEqProofs [hlt, hxe, hx, w1]
    refine callK_still (fun _ => c_l03Figure b _) ?_
    simp -implicitDefEqProofs [hlt, hxe, hx, w1]
    refine ⟨fun h => ?_, fun h1 h2 h3 => ?_⟩
    · have ht : isNm b = true := by unfold isNm; rcases h with (h | h) | h <;> simp [h]
      rw [ht, if_pos rfl] at hp
      exact ⟨s.length - (i + 1), by omega, _, St.le_of (by simp) (by simp [St.trunc, look, mapV, mapC, killP]) rfl (by simp [St.trunc, mapC]), (hI _ _).2 ⟨i + 1, by omega, rfl, by unfold nameEnd; omega, rfl⟩⟩
    · have hf : isNm b = false := by unfold isNm; rw [h1, h2, h3]; rfl
      rw [hf] at hp
      simp at hp
      omega
  · have hn : ¬ i < s.length := by omega
    rw [drop_nil hge] at hp
    simp -implicitDefEqProofs [hn]
    intro _
    refine callK_still (r := .bool false) (fun h => absurd h (by simp)) ?_
    simp -implicitDefEqProofs
    refine callK_still (r := .bool false) (fun h => absurd h (by simp)) ?_
    simp -implicitDefEqProofs
    have h0 : runW isNm [] = 0 := rfl
    omega
theorem c_inName (b : UInt8) (K) : Ct Tryz.prog 156 [.int .u8 b.toNat] K (.bool (isNm b)) K := by
  have b95 : (b.toNat : Int) = 95 ↔ b = 95 := u8_eq (c := 95)
  refine ct_fn { n0 := 3, ex := [], tk := [4, 7] } Tryz.func156 rfl (by kernel_rfl) (by kernel_rfl) rfl ?_
  simp -implicitDefEqProofs [Tryz.f156]
  refine callK_of (c_isLetter b _) ?_
  simp -implicitDefEqProofs
  refine callK_still (fun _ => c_isFigure b _) ?_
  simp -implicitDefEqProofs [b95]
  unfold isNm isUn
  simp only [b95]
  cases isLet b <;> cases isFig b <;> by_cases h : b = 95 <;> simp [h]
end Go.Proofs.YtkefgpmnimpcdaaGreatDoor.Abs
/- Plain laws: texts put in place of others, texts that are cut, blanks ahead. No condition. -/
set_option linter.unusedVariables false
set_option linter.unusedSimpArgs false
namespace Go.Proofs.YtkefgpmnimpcdaaGreatDoor.Abs
open Go
theorem idx_hit {b : UInt8} {l sub : Bs} (h : sub.isPrefixOf (b :: l) = true) : Lib.index (b :: l) sub = ((0 : Nat) : Int) := by
  rw [Lib.index, if_pos h]; rfl
theorem idx_miss {b : UInt8} {l sub : Bs} (h : sub.isPrefixOf (b :: l) = false) : Lib.index (b :: l) sub = if Lib.index l sub == -1 then -1 else Lib.index l sub + 1 := by
  rw [Lib.index, if_neg (by rw [h]; simp)]
theorem idx_shift {b : UInt8} {l sub : Bs} (hs : sub ≠ []) (h : sub.isPrefixOf (b :: l) = false) :
    (Lib.index l sub = -1 ∧ Lib.index (b :: l) sub = -1) ∨ ∃ i : Nat, Lib.index l sub = i ∧ Lib.index (b :: l) sub = ((i + 1 : Nat) : Int) ∧ Lib.count (b :: l) sub = Lib.count l sub := by
  have hm := idx_miss h
  have hge := Lib.index_ge l sub
  by_cases h1 : Lib.index l sub = -1
  · left; rw [h1] at hm; exact ⟨h1, hm⟩
  · right
    refine ⟨(Lib.index l sub).toNat, by omega, ?_, ?_⟩
    · rw [hm, if_neg (by simpa using h1)]; omega
    · have e1 : Lib.index l sub = ((Lib.index l sub).toNat : Nat) := by omega
      have e2 : Lib.index (b :: l) sub = (((Lib.index l sub).toNat + 1 : Nat) : Int) := by rw [hm, if_neg (by simpa using h1)]; omega
      rw [Lib.count_hit hs e1, Lib.count_hit hs e2]
      congr 2
      rw [show (Lib.index l sub).toNat + 1 + sub.length = ((Lib.index l sub).toNat + sub.length) + 1 by omega, List.drop_succ_cons]
/-- All instances replaced. -/
def repA (old new s : Bs) : Bs := Lib.replaceK old new (Lib.count s old) s
theorem repA_eq {s old new : Bs} (h : (old == new) = false) : Lib.replaceAll s old new = repA old new s := by
  unfold Lib.replaceAll Lib.replace repA Lib.replaceNum
  rw [if_neg (by rw [h]; simp), if_pos (by omega)]
theorem repA_nil {old new : Bs} (ho : old ≠ []) : repA old new [] = [] := by
  have h : Lib.index [] old = -1 := by
    rw [Lib.index]; cases old with
    | nil => exact absurd rfl ho
    | cons _ _ => rfl
  unfold repA; rw [Lib.count_miss h]; rfl
theorem repA_hit {b : UInt8} {l old new : Bs} (ho : old ≠ []) (h : old.isPrefixOf (b :: l) = true) : repA old new (b :: l) = new ++ repA old new ((b :: l).drop old.length) := by
  have h0 := idx_hit h
  unfold repA
  rw [Lib.count_hit ho h0, Nat.add_comm, Lib.replaceK_hit _ _ _ _ _ h0]
  simp
theorem repA_miss {b : UInt8} {l old new : Bs} (ho : old ≠ []) (h : old.isPrefixOf (b :: l) = false) : repA old new (b :: l) = b :: repA old new l := by
  rcases idx_shift ho h with ⟨h1, h2⟩ | ⟨i, h1, h2, h3⟩
  · unfold repA; rw [Lib.count_miss h1, Lib.count_miss h2]; rfl
  · unfold repA
    rw [h3]
    have hc := Lib.count_hit ho h1
    rw [Nat.add_comm] at hc
    rw [hc, Lib.replaceK_hit _ _ _ _ _ h1, Lib.replaceK_hit _ _ _ _ _ h2, show i + 1 + old.length = (i + old.length) + 1 by omega, List.drop_succ_cons, List.take_succ_cons]
    rfl
theorem repA_len {old new : Bs} (ho : old ≠ []) (hn : new.length ≤ old.length) : ∀ (n : Nat) (s : Bs), s.length ≤ n → (repA old new s).length ≤ s.length := by
  intro n; induction n with
  | zero => intro s hs; obtain rfl : s = [] := List.length_eq_zero_iff.1 (by omega); rw [repA_nil ho]; exact Nat.le_refl _
  | succ n ih =>
    intro s hs
    cases s with
    | nil => rw [repA_nil ho]; exact Nat.le_refl _
    | cons b l =>
      simp only [List.length_cons] at hs
      cases hp : old.isPrefixOf (b :: l) with
      | true =>
        have hle := (List.isPrefixOf_iff_prefix.1 hp).length_le
        have h0 : 0 < old.length := by cases old with
          | nil => exact absurd rfl ho
          | cons _ _ => simp
        rw [repA_hit ho hp]
        have := ih ((b :: l).drop old.length) (by rw [List.length_drop, List.length_cons]; omega)
        rw [List.length_append]; rw [List.length_drop] at this; simp only [List.length_cons] at *; omega
      | false =>
        rw [repA_miss ho hp]
        have := ih l (by omega)
        simp only [List.length_cons]; omega
/-- Cut at all instances. -/
theorem split_nil {sep : Bs} (ho : sep ≠ []) : Lib.split [] sep = [[]] := by
  have h : Lib.index [] sep = -1 := by
    rw [Lib.index]; cases sep with
    | nil => exact absurd rfl ho
    | cons _ _ => rfl
  unfold Lib.split; rw [Lib.count_miss h]; rfl
theorem splitK_hit {sep : Bs} {k i : Nat} {s : Bs} (h : Lib.index s sep = i) : Lib.splitK sep 0 (k + 1) s = s.take i :: Lib.splitK sep 0 k (s.drop (i + sep.length)) := by
  have hm : ¬ (Lib.index s sep == -1) = true := fun e => by have := beq_iff_eq.1 e; omega
  have e : (Lib.index s sep).toNat = i := by omega
  rw [Lib.splitK, if_neg hm, e]; rfl
theorem split_hit {b : UInt8} {l sep : Bs} (ho : sep ≠ []) (h : sep.isPrefixOf (b :: l) = true) : Lib.split (b :: l) sep = [] :: Lib.split ((b :: l).drop sep.length) sep := by
  have h0 := idx_hit h
  unfold Lib.split
  rw [Lib.count_hit ho h0, Nat.add_comm, splitK_hit h0]
  simp
theorem split_miss {b : UInt8} {l sep : Bs} (ho : sep ≠ []) (h : sep.isPrefixOf (b :: l) = false) : Lib.split (b :: l) sep = preL [b] (Lib.split l sep) := by
  rcases idx_shift ho h with ⟨h1, h2⟩ | ⟨i, h1, h2, h3⟩
  · unfold Lib.split; rw [Lib.count_miss h1, Lib.count_miss h2]; rfl
  · unfold Lib.split
    rw [h3]
    have hc := Lib.count_hit ho h1
    rw [Nat.add_comm] at hc
    rw [hc, splitK_hit h1, splitK_hit h2, show i + 1 + sep.length = (i + sep.length) + 1 by omega, List.drop_succ_cons, List.take_succ_cons]
    rfl
theorem isPre1 {a b : UInt8} {l : Bs} : ([a] : Bs).isPrefixOf (b :: l) = decide (a = b) := by
  simp only [List.isPrefixOf, Bool.and_true]
  by_cases h : a = b <;> simp [h]
/-- The lines as the program takes them. -/
def linesI (s : Bs) : List Bs := Lib.split (repA [13] [10] (repA [13, 10] [10] s)) [10]
theorem linesF_eq : ∀ (n : Nat) (s : Bs), s.length ≤ n → linesI s = linesF false s := by
  intro n; induction n with
  | zero =>
    intro s hs
    obtain rfl : s = [] := List.length_eq_zero_iff.1 (by omega)
    unfold linesI
    rw [repA_nil (by simp), repA_nil (by simp), split_nil (by simp)]; rfl
  | succ n ih =>
    intro s hs
    cases s with
    | nil => unfold linesI; rw [repA_nil (by simp), repA_nil (by simp), split_nil (by simp)]; rfl
    | cons c r =>
      simp only [List.length_cons] at hs
      have hr := ih r (by omega)
      unfold linesI at hr ⊢
      cases hp : ([13, 10] : Bs).isPrefixOf (c :: r) with
      | true =>
        rw [repA_hit (by simp) hp]
        cases r with
        | nil => simp [List.isPrefixOf] at hp
        | cons d r =>
          simp only [List.isPrefixOf, Bool.and_true, Bool.and_eq_true, beq_iff_eq] at hp
          obtain ⟨rfl, rfl⟩ := hp
          have hr2 := ih r (by simp at hs; omega)
          unfold linesI at hr2
          simp only [List.length_cons, List.length_nil, List.drop_succ_cons, List.drop_zero, List.cons_append, List.nil_append]
          rw [repA_miss (by simp) (by rw [isPre1]; decide), split_hit (by simp) (by rw [isPre1]; decide)]
          simp only [List.length_cons, List.length_nil, List.drop_succ_cons, List.drop_zero]
          rw [hr2]
          simp [linesF]
      | false =>
        rw [repA_miss (by simp) hp]
        by_cases h13 : c = 13
        · subst h13
          rw [repA_hit (by simp) (by rw [isPre1]; decide)]
          simp only [List.length_cons, List.length_nil, List.drop_succ_cons, List.drop_zero, List.cons_append, List.nil_append]
          rw [split_hit (by simp) (by rw [isPre1]; decide)]
          simp only [List.length_cons, List.length_nil, List.drop_succ_cons, List.drop_zero]
          rw [hr]
          have ht : linesF true r = linesF false r := by
            cases r with
            | nil => rfl
            | cons d r =>
              refine linesF_true fun e => ?_
              subst e
              simp [List.isPrefixOf] at hp
          rw [linesF]
          simp [ht]
        · rw [repA_miss (by simp) (by rw [isPre1]; simpa using fun e => h13 e.symm)]
          by_cases h10 : c = 10
          · subst h10
            rw [split_hit (by simp) (by rw [isPre1]; decide)]
            simp only [List.length_cons, List.length_nil, List.drop_succ_cons, List.drop_zero]
            rw [hr, linesF]
            simp
          · rw [split_miss (by simp) (by rw [isPre1]; simpa using fun e => h10 e.symm), hr, linesF, if_neg (by simp), if_neg h13, if_neg h10]
            cases linesF false r <;> rfl
theorem trim_ind (l : Bs) : (Lib.trimLeftS l [32, 9]).length + indN l = l.length := by
  unfold Lib.trimLeftS indN
  have h : (fun b : UInt8 => ([32, 9] : Bs).contains b) = isWs := by
    funext b
    unfold isWs
    rw [Bool.eq_iff_iff]
    simp
  rw [h]
  have := congrArg List.length (List.takeWhile_append_dropWhile (p := isWs) (l := l))
  rw [List.length_append] at this
  omega
theorem join_eq : ∀ ls : List Bs, Lib.join ls [10] = joinL ls := by
  intro ls; induction ls with
  | nil => rfl
  | cons x r ih =>
    rw [Lib.join_cons]
    cases r with
    | nil => simp [Lib.joinTail, joinL]
    | cons y r =>
      rw [Lib.join_cons] at ih
      rw [joinL, ← ih]
      · simp [Lib.joinTail]
      · simp
end Go.Proofs.YtkefgpmnimpcdaaGreatDoor.Abs
/- Tokens: what both sides read, in plain Lean. No condition. -/
set_option linter.unusedVariables false
set_option linter.unusedSimpArgs false
namespace Go.Proofs.YtkefgpmnimpcdaaGreatDoor.Abs
open Go
set_option maxRecDepth 100000
def isSkip (b : UInt8) : Bool := decide (b = 32) || decide (b = 9) || decide (b = 10) || decide (b = 13) || decide (b = 44)
def noNl (b : UInt8) : Bool := !(decide (b = 10) || decide (b = 13))
def bom (s : Bs) : Bool := ([239, 187, 191] : Bs).isPrefixOf s
theorem bom_len {s : Bs} (h : bom s = true) : 3 ≤ s.length := (List.isPrefixOf_iff_prefix.1 h).length_le
theorem bom_0 {s : Bs} (h : bom s = true) : s[0]? = some 239 := by
  obtain ⟨t, rfl⟩ := List.isPrefixOf_iff_prefix.1 h; rfl
def skipG : Nat → Bs → Nat → Nat
  | 0, _, i => i
  | n + 1, s, i => if s.length ≤ i then i else if isSkip (s.getD i 0) then skipG n s (i + 1) else if s.getD i 0 = 35 then skipG n s (i + runW noNl (s.drop i)) else i
/-- The place of the next token. -/
def skipP (s : Bs) (a : Nat) : Nat := skipG (s.length + 1) s (if a = 0 ∧ bom s = true then 3 else a)
theorem skipG_le (s : Bs) : ∀ (n i : Nat), i ≤ skipG n s i ∧ (i ≤ s.length → skipG n s i ≤ s.length) := by
  intro n; induction n with
  | zero => intro i; exact ⟨Nat.le_refl _, fun h => h⟩
  | succ n ih =>
    intro i
    rw [skipG]
    split
    · exact ⟨Nat.le_refl _, fun h => h⟩
    · split
      · have := ih (i + 1); exact ⟨by omega, fun h => this.2 (by omega)⟩
      · split
        · have := ih (i + runW noNl (s.drop i))
          have hr := runW_le (p := noNl) (l := s.drop i)
          rw [List.length_drop] at hr
          exact ⟨by omega, fun h => this.2 (by omega)⟩
        · exact ⟨Nat.le_refl _, fun h => h⟩
theorem skipP_le (s : Bs) (a : Nat) (h : a ≤ s.length) : a ≤ skipP s a ∧ skipP s a ≤ s.length := by
  unfold skipP
  split
  · next hb =>
    have := skipG_le s (s.length + 1) 3
    have := bom_len hb.2
    omega
  · have := skipG_le s (s.length + 1) a; exact ⟨this.1, this.2 h⟩
theorem runW_pos {p : UInt8 → Bool} {b : UInt8} {l : Bs} (h : p b = true) : 0 < runW p (b :: l) := by rw [runW_cons, if_pos h]; omega
def numRun : UInt8 → Bs → Nat
  | _, [] => 0
  | p, b :: r => if isNm b || decide (b = 46) || ((decide (b = 43) || decide (b = 45)) && (decide (p = 101) || decide (p = 69))) then numRun b r + 1 else 0
theorem numRun_le : ∀ (l : Bs) (p : UInt8), numRun p l ≤ l.length := by
  intro l; induction l with
  | nil => intro p; exact Nat.le_refl _
  | cons b r ih => intro p; rw [numRun]; have := ih b; split <;> simp <;> omega
/-- The place behind what begins like a number. -/
def numTE (s : Bs) (a : Nat) : Nat := a + 1 + numRun (s.getD a 0) (s.drop (a + 1))
theorem numTE_le (s : Bs) (a : Nat) (h : a < s.length) : a < numTE s a ∧ numTE s a ≤ s.length := by
  unfold numTE
  have := numRun_le (s.drop (a + 1)) (s.getD a 0)
  rw [List.length_drop] at this; omega
theorem nameEnd_le (s : Bs) (a : Nat) (h : a ≤ s.length) : a ≤ nameEnd s a ∧ nameEnd s a ≤ s.length := by
  unfold nameEnd
  have := runW_le (p := isNm) (l := s.drop a)
  rw [List.length_drop] at this; omega
def nameOk (l : Bs) : Bool := decide (0 < l.length) && decide (l.length ≤ 30) && !isFig (l.getD 0 0) && l.all isNm
def signB (b : UInt8) : Bool := ([33, 36, 38, 40, 41, 58, 61, 64, 91, 93, 123, 124, 125] : Bs).contains b
def signOk (l : Bs) : Bool := decide (l = [46, 46, 46]) || (decide (l.length = 1) && signB (l.getD 0 0))
def dots3 (s : Bs) (a : Nat) : Bool := ([46, 46, 46] : Bs).isPrefixOf (s.drop a)
def cutT (s : Bs) (a e : Nat) : Bs := (s.take e).drop a
abbrev ResT := (DToken × Nat) × Int
def failT (c : Int) : ResT := ((⟨0, [], 0⟩, 0), c)
theorem failT_ne {c : Int} (h : ¬ c = 0) : ¬ (failT c).2 = 0 := h
def textT (s : Bs) (a : Nat) : ResT :=
  if three s a then
    if blkEnd s a < 0 then failT 5 else
    if (blkText (cutT s a (blkEnd s a).toNat)).2 then ((⟨5, (blkText (cutT s a (blkEnd s a).toNat)).1, a⟩, (blkEnd s a).toNat), 0) else failT 5
  else
    if strEnd s a < 0 then failT 5 else
    if (unesc (cutT s a (strEnd s a).toNat)).2 then ((⟨5, (unesc (cutT s a (strEnd s a).toNat)).1, a⟩, (strEnd s a).toNat), 0) else failT 5
/-- The token that begins at a place. -/
def oneT (s : Bs) (a : Nat) : ResT :=
  if dots3 s a then ((⟨1, [46, 46, 46], a⟩, a + 3), 0) else
  let b := s.getD a 0
  if signB b then ((⟨1, [b], a⟩, a + 1), 0) else
  if b = 34 then textT s a else
  if b = 45 ∨ isFig b = true then
    let t := cutT s a (numTE s a)
    if floatOk t then ((⟨4, t, a⟩, numTE s a), 0) else if intOk t then ((⟨3, t, a⟩, numTE s a), 0) else failT 4
  else if isNm b then
    if 30 < nameEnd s a - a then failT 3 else ((⟨2, cutT s a (nameEnd s a), a⟩, nameEnd s a), 0)
  else failT 3
/-- The same as the reference goes about it. -/
def textR (s : Bs) (a : Nat) : ResT :=
  if three s a then
    if blkEnd s a < 0 then ((⟨5, [], a⟩, a), 5) else
    if (blkText (cutT s a (blkEnd s a).toNat)).2 then ((⟨5, (blkText (cutT s a (blkEnd s a).toNat)).1, a⟩, (blkEnd s a).toNat), 0) else ((⟨5, (blkText (cutT s a (blkEnd s a).toNat)).1, a⟩, a), 5)
  else
    if strEnd s a < 0 then ((⟨5, [], a⟩, a), 5) else
    if (unesc (cutT s a (strEnd s a).toNat)).2 then ((⟨5, (unesc (cutT s a (strEnd s a).toNat)).1, a⟩, (strEnd s a).toNat), 0) else ((⟨5, (unesc (cutT s a (strEnd s a).toNat)).1, a⟩, a), 5)
def refT (s : Bs) (a : Nat) : ResT :=
  let b := s.getD a 0
  if isLet b || isUn b then
    let t := cutT s a (nameEnd s a)
    if nameOk t then ((⟨2, t, a⟩, nameEnd s a), 0) else ((⟨2, t, a⟩, a), 3)
  else if isFig b || decide (b = 45) then
    let t := cutT s a (numTE s a)
    if intOk t then ((⟨3, t, a⟩, numTE s a), 0) else if floatOk t then ((⟨4, t, a⟩, numTE s a), 0) else ((⟨4, t, a⟩, a), 4)
  else if b = 34 then textR s a
  else
    let e := if dots3 s a then a + 3 else a + 1
    let t := cutT s a e
    if signOk t then ((⟨1, t, a⟩, e), 0) else ((⟨1, t, a⟩, a), 3)
theorem int_not_float {t : Bs} (h : intOk t = true) : floatOk t = false := by
  rw [intOk_iff] at h
  simp only [Bool.and_eq_true, decide_eq_true_eq] at h
  unfold floatOk
  rw [if_pos (.inr (.inr (by omega)))]
theorem textT_R (s : Bs) (a : Nat) : (textR s a).2 = (textT s a).2 ∧ ((textT s a).2 = 0 → textR s a = textT s a) := by
  unfold textR textT failT
  split
  · split
    · exact ⟨rfl, fun h => absurd h (show ¬ (5 : Int) = 0 by decide)⟩
    · split
      · exact ⟨rfl, fun _ => rfl⟩
      · exact ⟨rfl, fun h => absurd h (show ¬ (5 : Int) = 0 by decide)⟩
  · split
    · exact ⟨rfl, fun h => absurd h (show ¬ (5 : Int) = 0 by decide)⟩
    · split
      · exact ⟨rfl, fun _ => rfl⟩
      · exact ⟨rfl, fun h => absurd h (show ¬ (5 : Int) = 0 by decide)⟩
theorem cls_let {b : UInt8} (h : (isLet b || isUn b) = true) : signB b = false ∧ b ≠ 34 ∧ b ≠ 45 ∧ isFig b = false ∧ isNm b = true ∧ b ≠ 46 :=
  u8_all (p := fun b => (isLet b || isUn b) = true → signB b = false ∧ b ≠ 34 ∧ b ≠ 45 ∧ isFig b = false ∧ isNm b = true ∧ b ≠ 46) (by decide) b h
theorem cls_fig {b : UInt8} (h : (isFig b || decide (b = 45)) = true) : signB b = false ∧ b ≠ 34 ∧ b ≠ 46 :=
  u8_all (p := fun b => (isFig b || decide (b = 45)) = true → signB b = false ∧ b ≠ 34 ∧ b ≠ 46) (by decide) b h
theorem cls_quo : signB 34 = false := by decide
theorem cls_nm {b : UInt8} (h1 : (isLet b || isUn b) = false) (h2 : (isFig b || decide (b = 45)) = false) : isNm b = false ∧ ¬ (b = 45 ∨ isFig b = true) :=
  u8_all (p := fun b => (isLet b || isUn b) = false → (isFig b || decide (b = 45)) = false → isNm b = false ∧ ¬ (b = 45 ∨ isFig b = true)) (by decide) b h1 h2
theorem dots3_b {s : Bs} {a : Nat} {b : UInt8} (hx : s[a]? = some b) (h : b ≠ 46) : dots3 s a = false := by
  unfold dots3
  rw [drop_cons hx]
  simp only [List.isPrefixOf, Bool.and_eq_false_imp, beq_iff_eq]
  exact fun e => absurd e.symm h
theorem run_all {p : UInt8 → Bool} (l : Bs) : (l.take (runW p l)).all p = true := by
  induction l with
  | nil => rfl
  | cons b r ih =>
    rw [runW_cons]
    split
    · next h => simp only [List.take_succ_cons, List.all_cons, h, Bool.true_and]; exact ih
    · rfl
theorem cutT_run (s : Bs) (a k : Nat) : cutT s a (a + k) = (s.drop a).take k := by
  unfold cutT; rw [List.drop_take]; congr 1; omega
theorem cutT_len (s : Bs) (a e : Nat) (h : e ≤ s.length) : (cutT s a e).length = e - a := by
  unfold cutT; rw [List.length_drop, List.length_take]; omega
theorem nameOk_run {s : Bs} {a : Nat} {b : UInt8} (hx : s[a]? = some b) (hb : isNm b = true) (hf : isFig b = false) : nameOk (cutT s a (nameEnd s a)) = decide (nameEnd s a - a ≤ 30) := by
  have hlt := (List.getElem?_eq_some_iff.1 hx).1
  have hle := nameEnd_le s a (by omega)
  have hl := cutT_len s a (nameEnd s a) hle.2
  have hd := drop_cons hx
  have hall : (cutT s a (nameEnd s a)).all isNm = true := by
    unfold nameEnd; rw [cutT_run]; exact run_all _
  have hp : 0 < runW isNm (s.drop a) := by rw [hd]; exact runW_pos hb
  have h0 : (cutT s a (nameEnd s a)).getD 0 0 = b := by
    unfold nameEnd; rw [cutT_run, hd]
    obtain ⟨k, hk⟩ : ∃ k, runW isNm (b :: s.drop (a + 1)) = k + 1 := ⟨runW isNm (b :: s.drop (a + 1)) - 1, by rw [hd] at hp; omega⟩
    rw [hk]; rfl
  have hge : 0 < nameEnd s a - a := by unfold nameEnd; omega
  unfold nameOk
  rw [hall, h0, hf, hl, decide_eq_true hge]
  simp
theorem ref_one (s : Bs) (a : Nat) (h : a < s.length) : (refT s a).2 = (oneT s a).2 ∧ ((oneT s a).2 = 0 → refT s a = oneT s a) := by
  obtain ⟨b, hx⟩ : ∃ b, s[a]? = some b := ⟨_, List.getElem?_eq_getElem h⟩
  have hg : s.getD a 0 = b := by rw [List.getD_eq_getElem?_getD, hx]; rfl
  unfold refT oneT
  simp only [hg]
  have n3 : ¬ (3 : Int) = 0 := by decide
  have n4 : ¬ (4 : Int) = 0 := by decide
  by_cases h1 : (isLet b || isUn b) = true
  · obtain ⟨c1, c2, c3, c4, c5, c6⟩ := cls_let h1
    simp only [h1, dots3_b hx c6, c1, c2, c3, c4, c5, nameOk_run hx c5 c4, if_true, Bool.false_eq_true, if_false, or_self, decide_eq_true_eq]
    by_cases h30 : nameEnd s a - a ≤ 30
    · rw [if_pos h30, if_neg (by omega)]; first | exact ⟨rfl, fun _ => rfl⟩ | simp
    · rw [if_neg h30, if_pos (by omega)]; exact ⟨rfl, fun h => absurd h n3⟩
  · have h1 : (isLet b || isUn b) = false := by simpa using h1
    by_cases h2 : (isFig b || decide (b = 45)) = true
    · obtain ⟨c1, c2, c3⟩ := cls_fig h2
      have hor : b = 45 ∨ isFig b = true := by
        rcases Bool.or_eq_true_iff.1 h2 with h | h
        · exact .inr h
        · exact .inl (by simpa using h)
      simp only [h1, h2, dots3_b hx c3, c1, c2, hor, if_true, Bool.false_eq_true, if_false]
      cases hi : intOk (cutT s a (numTE s a)) with
      | true =>
        simp only [int_not_float hi, if_true, Bool.false_eq_true, if_false]; first | exact ⟨rfl, fun _ => rfl⟩ | simp
      | false =>
        cases hf : floatOk (cutT s a (numTE s a)) with
        | true => simp only [if_true, Bool.false_eq_true, if_false]; first | exact ⟨rfl, fun _ => rfl⟩ | simp
        | false => simp only [Bool.false_eq_true, if_false]; exact ⟨rfl, fun h => absurd h n4⟩
    · have h2 : (isFig b || decide (b = 45)) = false := by simpa using h2
      obtain ⟨c1, c2⟩ := cls_nm h1 h2
      by_cases h3 : b = 34
      · subst h3
        simp only [h1, h2, dots3_b hx (by decide), cls_quo, Bool.false_eq_true, if_false, if_true]
        exact textT_R s a
      · simp only [h1, h2, h3, c1, c2, Bool.false_eq_true, if_false]
        cases hd : dots3 s a with
        | true =>
          have ht : cutT s a (a + 3) = [46, 46, 46] := by
            rw [cutT_run]
            exact (List.prefix_iff_eq_take.1 (List.isPrefixOf_iff_prefix.1 hd)).symm
          simp only [if_true, ht]
          rw [if_pos (by decide)]
          first | exact ⟨rfl, fun _ => rfl⟩ | simp
        | false =>
          have ht : cutT s a (a + 1) = [b] := by rw [cutT_run, drop_cons hx]; rfl
          have hso : signOk [b] = signB b := by unfold signOk; simp
          simp only [Bool.false_eq_true, if_false, ht, hso]
          cases hs : signB b with
          | true => simp only [if_true]; first | exact ⟨rfl, fun _ => rfl⟩ | simp
          | false => simp only [Bool.false_eq_true, if_false]; exact ⟨rfl, fun h => absurd h n3⟩
theorem oneT_end (s : Bs) (a : Nat) (h : a < s.length) (h0 : (oneT s a).2 = 0) : a < (oneT s a).1.2 ∧ (oneT s a).1.2 ≤ s.length := by
  obtain ⟨b, hx⟩ : ∃ b, s[a]? = some b := ⟨_, List.getElem?_eq_getElem h⟩
  have hn := nameEnd_le s a (by omega)
  have hm := numTE_le s a h
  have hg : s.getD a 0 = b := by rw [List.getD_eq_getElem?_getD, hx]; rfl
  unfold oneT at h0 ⊢
  simp only [hg] at h0 ⊢
  cases hd : dots3 s a with
  | true =>
    have hl := (List.isPrefixOf_iff_prefix.1 hd).length_le
    rw [List.length_drop] at hl
    simp at hl
    rw [if_pos rfl]; simp only; omega
  | false =>
    rw [hd, if_neg (by simp)] at h0
    rw [if_neg (by simp)]
    split
    · simp only; omega
    · next c1 =>
      rw [if_neg c1] at h0
      split
      · next c2 =>
        rw [if_pos c2] at h0
        unfold textT at h0 ⊢
        have hb := blkEnd_bnd s a
        have hs := strEnd_cases s a
        split
        · next c3 =>
          rw [if_pos c3] at h0
          split
          · next c4 => rw [if_pos c4] at h0; exact absurd h0 (failT_ne (by decide))
          · next c4 =>
            rw [if_neg c4] at h0
            split
            · clear h0 hs; simp only; omega
            · next c5 => rw [if_neg c5] at h0; exact absurd h0 (failT_ne (by decide))
        · next c3 =>
          rw [if_neg c3] at h0
          split
          · next c4 => rw [if_pos c4] at h0; exact absurd h0 (failT_ne (by decide))
          · next c4 =>
            rw [if_neg c4] at h0
            split
            · clear h0; simp only
              rcases hs with hs | ⟨k, hk, h1, h2, _⟩
              · omega
              · omega
            · next c5 => rw [if_neg c5] at h0; exact absurd h0 (failT_ne (by decide))
      · next c2 =>
        rw [if_neg c2] at h0
        split
        · next c3 =>
          rw [if_pos c3] at h0
          split
          · exact hm
          · next c4 =>
            rw [if_neg c4] at h0
            split
            · exact hm
            · next c5 => rw [if_neg c5] at h0; exact absurd h0 (failT_ne (by decide))
        · next c3 =>
          rw [if_neg c3] at h0
          split
          · next c4 =>
            rw [if_pos c4] at h0
            split
            · next c5 => rw [if_pos c5] at h0; exact absurd h0 (failT_ne (by decide))
            · simp only
              have : 0 < runW isNm (s.drop a) := by rw [drop_cons hx]; exact runW_pos c4
              unfold nameEnd at hn ⊢; omega
          · next c4 => rw [if_neg c4] at h0; exact absurd h0 (failT_ne (by decide))
/-- Where the first byte stands that is of no rune. -/
def badAt : Nat → Bs → Nat → Option Nat
  | 0, _, _ => none
  | n + 1, s, i => if s.length ≤ i then none else if (runeAt (s.drop i)).2 = 0 then some i else badAt n s (i + (runeAt (s.drop i)).2)
def toksG : Nat → Bs → Nat → List DToken → List DToken × Int × Int
  | 0, _, _, acc => (acc, 0, 0)
  | n + 1, s, i, acc => if s.length ≤ i then (acc, 0, 0) else
    if (oneT s i).2 = 0 then (if acc.length = 2500 then ([], 6, i) else toksG n s (skipP s (oneT s i).1.2) (acc ++ [(oneT s i).1.1])) else ([], (oneT s i).2, i)
/-- The tokens of a text. -/
def toks (s : Bs) : List DToken × Int × Int :=
  if 12000 < s.length then ([], 1, 0) else match badAt (s.length + 1) s 0 with
    | some i => ([], 2, i)
    | none => toksG (s.length + 1) s (skipP s 0) []
theorem toksG_len : ∀ (n : Nat) (s : Bs) (i : Nat) (acc : List DToken), acc.length ≤ 2500 → (toksG n s i acc).1.length ≤ 2500 := by
  intro n; induction n with
  | zero => intro s i acc h; exact h
  | succ n ih =>
    intro s i acc h
    rw [toksG]
    split
    · exact h
    · split
      · split
        · exact Nat.zero_le _
        · next hne => exact ih _ _ _ (by rw [List.length_append]; simp; omega)
      · exact Nat.zero_le _
theorem toks_len (s : Bs) : (toks s).1.length ≤ 2500 := by
  unfold toks
  split
  · exact Nat.zero_le _
  · split
    · exact Nat.zero_le _
    · exact toksG_len _ _ _ _ (Nat.zero_le _)
end Go.Proofs.YtkefgpmnimpcdaaGreatDoor.Abs
