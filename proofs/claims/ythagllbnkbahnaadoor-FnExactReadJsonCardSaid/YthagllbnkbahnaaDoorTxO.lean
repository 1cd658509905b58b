/- The program's reader of Json: text, number: contracts. No condition. -/
import Derived.Test.YthagllbnkbahnaaDoorTxM
set_option linter.unusedVariables false
set_option linter.unusedSimpArgs false
namespace Go.Proofs.YthagllbnkbahnaaDoor.Abs
open Go
set_option maxHeartbeats 2000000
set_option maxRecDepth 100000
theorem c_longEscape (l : Bs) (hl : l.length ≤ 1000000000) (K) : Ct Tryd.prog 39 [.str l] K (.bool (longG false l)) K := by
  generalize hr : longG false l = r
  refine ct_fn { n0 := 4, ex := [], tk := [22] } Tryd.func39 rfl (by kernel_rfl) (by kernel_rfl) rfl ?_
  simp -implicitDefEqProofs [Tryd.f39]
  obtain ⟨I, hI⟩ : ∃ I : Nat → St → Prop, ∀ m st, I m st ↔ ∃ i, i ≤ l.length + 1 ∧ m = l.length + 1 - i ∧ longG false (l.drop i) = r ∧
    st = { env := [(0, .str l), (2, .bool false), (3, .int .i64 i)], loc := [], K := [] :: K } := ⟨_, fun _ _ => Iff.rfl⟩
  refine wC_loopI I (l.length + 1) ((hI _ _).2 ⟨0, by omega, rfl, hr, rfl⟩) (St.le_of (by simp) (by simp) rfl (by simp)) ?_
  intro m st hst
  obtain ⟨i, hi, rfl, hg, rfl⟩ := (hI _ _).1 hst
  rcases Nat.lt_or_ge i l.length with hlt | hge
  · obtain ⟨b, hx⟩ : ∃ b, l[i]? = some b := ⟨_, List.getElem?_eq_getElem hlt⟩
    have hxe : l[i]'hlt = b := (List.getElem?_eq_some_iff.1 hx).2
    have w1 : IntKind.i64.wrap ((i : Int) + 1) = (i + 1 : Nat) := by rw [wrap64 (by omega) (by omega)]; rfl
    have w2 : IntKind.i64.wrap ((i : Int) + 1 + 1) = (i + 2 : Nat) := by rw [wrap64 (by omega) (by omega)]; omega
    have b9 : (b.toNat : Int) = 9 ↔ b = 9 := u8_eq (c := 9)
    have b92 : (b.toNat : Int) = 92 ↔ b = 92 := u8_eq (c := 92)
    have q1 : ((i : Int) + 1).toNat = i + 1 := by omega
    have hpre := fun K => c_HasPrefix (l.drop (i + 1)) [117, 123] K
    rw [drop_cons hx] at hg
    simp only [longG] at hg
    have hskip : longG true (l.drop (i + 1)) = longG false (l.drop (i + 2)) := by
      rcases Nat.lt_or_ge (i + 1) l.length with h | h
      · obtain ⟨c, hc⟩ : ∃ c, l[i + 1]? = some c := ⟨_, List.getElem?_eq_getElem h⟩
        rw [drop_cons hc]; rfl
      · rw [drop_nil h, drop_nil (by omega)]; rfl
    generalize ([117, 123] : Bs).isPrefixOf (l.drop (i + 1)) = q at *
    simp -implicitDefEqProofs [hlt, hxe, hx, w1, b9, b92, q1]
    refine fun _ => ⟨fun h9 => ?_, fun h9 => ⟨fun h92 => ⟨⟨by omega, by omega⟩, callK_of (hpre _) ?_⟩, fun h92 => ?_⟩⟩
    · rw [if_pos h9] at hg; exact hg.symm
    · rw [if_neg h9, if_pos h92] at hg
      cases q with
      | true => simp -implicitDefEqProofs [← hg]
      | false =>
        simp only [Bool.false_or] at hg
        rw [hskip] at hg
        simp -implicitDefEqProofs [w1, w2]
        exact ⟨l.length + 1 - (i + 2), by omega, _, St.le_of (by simp) (by simp [St.trunc, look, mapV, mapC, killP]) rfl (by simp [St.trunc, mapC]), (hI _ _).2 ⟨i + 2, by omega, rfl, hg, rfl⟩⟩
    · rw [if_neg h9, if_neg h92] at hg
      exact ⟨l.length + 1 - (i + 1), by omega, _, St.le_of (by simp) (by simp [St.trunc, look, mapV, mapC, killP]) rfl (by simp [St.trunc, mapC]), (hI _ _).2 ⟨i + 1, by omega, rfl, hg, rfl⟩⟩
  · rw [drop_nil hge] at hg
    simp only [longG] at hg
    simp -implicitDefEqProofs [(by omega : ¬ i < l.length)]
    exact fun _ => ⟨fun h => absurd h (by omega), fun _ => hg.symm⟩
def sliceQ (s : Bs) (p : Nat) : Bs := (s.take (strEnd s p).toNat).drop p
def txB (s : Bs) (p : Nat) : Bool := decide (strEnd s p < 0) || longG false (sliceQ s p)
def txF (s : Bs) (p : Nat) : Bool := txB s p || !(unesc (sliceQ s p)).2
def txT (s : Bs) (p : Nat) : Bs := if txB s p then [] else (unesc (sliceQ s p)).1
def txA (s : Bs) (p : Nat) : Nat := if txB s p then p else (strEnd s p).toNat
theorem rdStr_tx (s : Bs) (p : Nat) : rdStr s p = if txF s p then none else some (txT s p, txA s p) := by
  unfold rdStr txF txT txA txB
  show (if strEnd s p < 0 then none else if longG false (sliceQ s p) = true then none else if (unesc (sliceQ s p)).2 = true then some ((unesc (sliceQ s p)).1, (strEnd s p).toNat) else none) = _
  by_cases c1 : strEnd s p < 0
  · simp [c1]
  · cases c2 : longG false (sliceQ s p) with
    | true => simp [c1]
    | false => cases c3 : (unesc (sliceQ s p)).2 <;> simp [c1]
theorem txA_le {s : Bs} {p : Nat} (h : p ≤ s.length) : txA s p ≤ s.length := by
  unfold txA; split
  · exact h
  · rcases strEnd_cases s p with e | ⟨k, e, _, hk, _⟩ <;> rw [e] <;> omega
theorem txT_len (s : Bs) (p : Nat) : (txT s p).length ≤ 200 := by
  unfold txT; split
  · simp
  · exact unesc_len _
theorem c_text (A : List (List (List AC))) (X : List (List AC)) (s : Bs) (a : Nat) (Y : List (List AC)) (C : List (List (List AC))) (ha : a ≤ s.length) (hs : s.length ≤ 1000000) :
    Ct Tryd.prog 27 [.ptr A.length X.length 0] (KR A X s a false Y C) (.str (txT s (pass s a))) (KR A X s (txA s (pass s a) : Nat) (txF s (pass s a)) Y C) := by
  have hp := pass_le ha
  have hse := fun K => c_StringEnd s (pass s a) (by omega) (by omega) K
  have hle := fun l h K => c_longEscape l h K
  have hun := fun l h K => c_Unescaped l h K
  refine ct_fn { n0 := 6, ex := [], tk := [7, 16, 36, 52, 64] } Tryd.func27 rfl (by kernel_rfl) (by kernel_rfl) rfl ?_
  simp -implicitDefEqProofs [Tryd.f27]
  refine callK_of (c_skip ([] :: A) X s a false Y C ha (by omega)) ?_
  generalize pass s a = p at *
  simp -implicitDefEqProofs
  refine wRun_draw true rfl (by decide +kernel) ?_
  simp -implicitDefEqProofs
  refine callK_of (hse _) ?_
  simp -implicitDefEqProofs
  refine wRun_draw true rfl (by decide +kernel) ?_
  unfold txF txT txA txB sliceQ
  rcases strEnd_cases s p with e | ⟨k, e, hk1, hk2, _⟩
  · rw [e]
    simp -implicitDefEqProofs
    refine callK_still (r := .bool false) (fun h => absurd h (by simp)) ?_
    simp -implicitDefEqProofs
  · rw [e]
    have hk0 : ¬ ((k : Int) < 0) := by omega
    have hl2 := hle ((s.take k).drop p) (by rw [List.length_drop, List.length_take]; omega)
    have hu2 := hun ((s.take k).drop p) (by rw [List.length_drop, List.length_take]; omega)
    simp -implicitDefEqProofs [hk0]
    generalize hsl : (s.take k).drop p = sl at *
    refine ⟨⟨by omega, hk2⟩, callK_still (fun _ => hl2 _) ?_⟩
    cases hL : longG false sl with
    | true => simp -implicitDefEqProofs
    | false =>
      simp -implicitDefEqProofs
      refine wRun_draw true rfl (by decide +kernel) ?_
      simp -implicitDefEqProofs
      rw [hsl]
      refine ⟨⟨by omega, hk2⟩, callK_of (hu2 _) ?_⟩
      generalize unesc sl = q at *
      simp -implicitDefEqProofs

def numEnd (s : Bs) (p : Nat) : Nat := p + runP isNb (s.drop p)
def numT (s : Bs) (p : Nat) : Bs := (s.drop p).take (runP isNb (s.drop p))
theorem isNb_iff (b : UInt8) : isNb b = (isLet b || (isFig b || (decide ((b.toNat : Int) = 46) || (decide ((b.toNat : Int) = 43) || decide ((b.toNat : Int) = 45))))) :=
  u8_all (p := fun b => isNb b = (isLet b || (isFig b || (decide ((b.toNat : Int) = 46) || (decide ((b.toNat : Int) = 43) || decide ((b.toNat : Int) = 45)))))) (by decide) b
theorem c_number (A : List (List (List AC))) (X : List (List AC)) (s : Bs) (a : Nat) (Y : List (List AC)) (C : List (List (List AC))) (ha : a ≤ s.length) (hs : s.length ≤ 1000000) :
    Ct Tryd.prog 28 [.ptr A.length X.length 0] (KR A X s a false Y C) (.str (numT s a)) (KR A X s (numEnd s a : Nat) (!(intOk (numT s a) || floatOk (numT s a))) Y C) := by
  have hrl := runP_le (p := isNb) (l := s.drop a)
  rw [List.length_drop] at hrl
  refine ct_fn { n0 := 6, ex := [], tk := [30, 34, 67, 71, 77] } Tryd.func28 rfl (by kernel_rfl) (by kernel_rfl) rfl ?_
  simp -implicitDefEqProofs [Tryd.f28]
  obtain ⟨I, hI⟩ : ∃ I : Nat → St → Prop, ∀ m st, I m st ↔ ∃ i, a ≤ i ∧ i ≤ s.length ∧ m = s.length - i ∧ i + runP isNb (s.drop i) = numEnd s a ∧
    st = { env := [(0, .ptr (A.length + 1) X.length 0), (2, .str []), (3, .int .i64 a)], loc := [], K := [] :: KR A X s i false Y C } := ⟨_, fun _ _ => Iff.rfl⟩
  refine wC_loopI I (s.length - a) ((hI _ _).2 ⟨a, Nat.le_refl _, ha, rfl, rfl, rfl⟩) (St.le_of (by simp) (by simp) rfl (by simp)) ?_
  intro m st hst
  obtain ⟨i, hai, hi, rfl, hp, rfl⟩ := (hI _ _).1 hst
  have done : i = numEnd s a → (s.take i).drop a = numT s a := by
    intro e
    unfold numT numEnd at *
    rw [e, List.take_add, List.drop_append, List.drop_of_length_le (by rw [List.length_take]; omega), List.nil_append, List.length_take, Nat.min_eq_left ha]
    simp
  have cI := fun K => c_IntOk (numT s a) K
  have cF := fun K => c_FloatOk (numT s a) K
  simp -implicitDefEqProofs
  refine wRun_draw true rfl (by decide +kernel) ?_
  simp -implicitDefEqProofs
  rcases Nat.lt_or_ge i s.length with hlt | hge
  · obtain ⟨b, hx⟩ : ∃ b, s[i]? = some b := ⟨_, List.getElem?_eq_getElem hlt⟩
    have hxe : s[i]'hlt = b := (List.getElem?_eq_some_iff.1 hx).2
    have w1 : IntKind.i64.wrap ((i : Int) + 1) = (i + 1 : Nat) := by rw [wrap64 (by omega) (by omega)]; rfl
    have hnb := isNb_iff b
    rw [drop_cons hx, runP_cons] at hp
    simp -implicitDefEqProofs [hlt]
    refine ⟨?_, fun h => absurd h (by omega)⟩
    refine wRun_draw true rfl (by decide +kernel) ?_
    simp -implicitDefEqProofs [hlt, hxe, hx]
    refine callK_of (c_isLetter b _) ?_
    simp -implicitDefEqProofs
    refine callK_still (fun _ => c_isFigure b _) ?_
    simp -implicitDefEqProofs [w1]
    refine ⟨fun h1 h2 h3 h4 h5 => ?_, fun h => ?_⟩
    · have hf : isNb b = false := by rw [hnb, h1, h2, decide_eq_false h3, decide_eq_false h4, decide_eq_false h5]; rfl
      have hne : i = numEnd s a := by rw [hf] at hp; simpa using hp
      have hd := done hne
      refine wRun_draw true rfl (by decide +kernel) ?_
      simp -implicitDefEqProofs [hd]
      refine ⟨⟨by omega, by omega⟩, callK_of (cI _) ?_⟩
      generalize intOk (numT s a) = b1 at *
      simp -implicitDefEqProofs
      refine callK_still (fun _ => cF _) ?_
      generalize floatOk (numT s a) = b2 at *
      rw [← hne]
      cases b1 <;> cases b2 <;> simp -implicitDefEqProofs
    · have ht : isNb b = true := by
        rw [hnb]
        cases h1 : isLet b with
        | true => rfl
        | false => cases h2 : isFig b with
          | true => rfl
          | false =>
            by_cases h3 : (b.toNat : Int) = 46
            · simp [h3]
            · by_cases h4 : (b.toNat : Int) = 43
              · simp [h4]
              · simp [h h1 h2 h3 h4]
      rw [ht, if_pos rfl] at hp
      exact ⟨s.length - (i + 1), by omega, _, St.le_of (by simp) (by simp [St.trunc, look, mapV, mapC, killP]) rfl (by simp [St.trunc, mapC]), (hI _ _).2 ⟨i + 1, by omega, by omega, rfl, by omega, rfl⟩⟩
  · have hn : ¬ i < s.length := by omega
    simp -implicitDefEqProofs [hn, hge]
    have hne : i = numEnd s a := by rw [drop_nil hge] at hp; simpa [runP] using hp
    have hd := done hne
    refine wRun_draw true rfl (by decide +kernel) ?_
    simp -implicitDefEqProofs [hd]
    refine ⟨⟨by omega, by omega⟩, callK_of (cI _) ?_⟩
    generalize intOk (numT s a) = b1 at *
    simp -implicitDefEqProofs
    refine callK_still (fun _ => cF _) ?_
    generalize floatOk (numT s a) = b2 at *
    rw [← hne]
    cases b1 <;> cases b2 <;> simp -implicitDefEqProofs
end Go.Proofs.YthagllbnkbahnaaDoor.Abs
