/- What the laws do with lists of strings. No condition. -/
import Derived.Test.YtkefgpmnimpcdaaGreatDoorData
import Derived.Test.YtkefgpmnimpcdaaGreatDoorFacts
import Derived.Test.YtkefgpmnimpcdaaGreatDoorChecked
set_option linter.unusedVariables false
set_option linter.unusedSimpArgs false
namespace Go.Proofs.YtkefgpmnimpcdaaGreatDoor.Abs
open Go
set_option maxHeartbeats 1000000
set_option maxRecDepth 100000

theorem wrap8 {n : Int} (h1 : 0 ≤ n) (h2 : n < 256) : IntKind.u8.wrap n = n := by
  have e : IntKind.u8.wrap n = n % 256 := by simp [IntKind.wrap, IntKind.bits, IntKind.signed]
  rw [e]; omega
/-- The letters behind m. -/
def mGo (k : Nat) (out : Bs) : Bs := if h : k = 0 then out else mGo (k / 10) (UInt8.ofNat (48 + k % 10) :: out)
termination_by k
decreasing_by omega
def mText (k : Int) : Bs := if k ≤ 0 then [109, 48] else 109 :: mGo k.toNat []
theorem c_markText (k : Int) (K) (h1 : -1 ≤ k) (h2 : k < 1000000000000000000) : Ct Tryz.prog 56 [.int .i64 k] K (.str (mText k)) K := by
  refine ct_fn { n0 := 4, ex := [], tk := [] } Tryz.func56 rfl (by kernel_rfl) (by kernel_rfl) rfl ?_
  simp -implicitDefEqProofs [Tryz.f56]
  refine ⟨fun h => by simp [mText, h], fun h => ?_⟩
  refine wC_loop (fun m s => ∃ (k' : Nat) (out : Bs) (d : Nat), k' = m ∧ k' < 10 ^ d ∧ d + out.length ≤ 18 ∧ mGo k' out = mGo k.toNat [] ∧
    s = { env := [(0, .int .i64 k'), (2, .str []), (3, .str out)], loc := [], K := [] :: K }) k.toNat _ (St.le_of (by simp) (by simp) rfl rfl) ⟨k.toNat, [], 18, rfl, by omega, by simp, rfl, by simp; omega⟩ ?_
  rintro m _ ⟨k', out, d, rfl, hd, hl, he, rfl⟩
  have hk' : k' < 1000000000000000000 := by
    have : 10 ^ d ≤ 10 ^ 18 := Nat.pow_le_pow_right (by omega) (by omega)
    have e : (10 : Nat) ^ 18 = 1000000000000000000 := by decide
    omega
  simp -implicitDefEqProofs
  refine ⟨fun h0 => ⟨by unfold maxLen; omega, by unfold maxLen; omega, ?_⟩, fun h0 => ⟨by unfold maxLen; omega, ?_⟩⟩
  · have e1 : ((k' : Int)).tmod 10 = ((k' % 10 : Nat) : Int) := rfl
    rw [e1]
    simp (disch := omega) only [wrap64, wrap8]
    refine ⟨k' / 10, by omega, _, St.le_of (by simp) ?_ rfl (by simp [St.trunc]), UInt8.ofNat (48 + k' % 10) :: out, d - 1, ?_, ?_, ?_, rfl⟩
    · have e2 : ((48 : Int) + (k' : Int) % 10).toNat = 48 + k' % 10 := by omega
      simp [St.trunc, look, mapV, mapC, e2]
    · cases d with
      | zero => simp at hd; omega
      | succ d => rw [Nat.pow_succ] at hd; simp; omega
    · cases d with
      | zero => simp at hd; omega
      | succ d => simp; omega
    · rw [← he]; conv => rhs; unfold mGo
      rw [dif_neg (by omega)]
  · subst h0
    have : mGo 0 out = out := by unfold mGo; simp
    rw [this] at he
    rw [mText, if_neg (by omega), he]

theorem c_szStringS (xs : List Bs) (l : Int) (K) (h1 : 0 ≤ l) (h2 : l ≤ 1048576) : ∃ r, Ct Tryz.prog 107 [.sl .no xs.length (encR .no (tStrS xs)), .int .i64 l] K (.int .i64 r) K ∧ SZ l (xs.length + szR (tStrS xs)) r := by
  refine ⟨_, ?_, subz_SZ _ _⟩
  refine ct_fn { n0 := 6, ex := [], tk := [] } Tryz.func107 rfl (by kernel_rfl) (by kernel_rfl) rfl ?_
  simp -implicitDefEqProofs [Tryz.f107]
  intro hn
  unfold maxLen at hn
  rw [wrap64 (by omega) (by omega)]
  refine ⟨fun h => by unfold subz; rw [if_pos (by omega)], fun h => ?_⟩
  refine wC_loop (fun m s => ∃ i, i ≤ xs.length ∧ m = xs.length - i ∧ ((szR ((tStrS xs).take i) : Nat) : Int) ≤ l - xs.length ∧
    s = { env := [(0, .sl .no xs.length (encR .no (tStrS xs))), (1, .int .i64 (l - xs.length - szR ((tStrS xs).take i))), (4, .int .i64 0), (5, .int .i64 i)], loc := [], K := [] :: K }) xs.length _
    (St.le_of (by simp) (by simp [szR]) rfl rfl) ⟨0, by omega, rfl, by simp [szR]; omega, by simp [szR]⟩ ?_
  rintro m _ ⟨i, hi, rfl, hz, rfl⟩
  rcases Nat.lt_or_ge i xs.length with hlt | hge
  · obtain ⟨x, hx⟩ : ∃ x, xs[i]? = some x := ⟨_, List.getElem?_eq_getElem hlt⟩
    have ea := atStr (m := .no) hx
    simp only [Nat.mul_one] at ea
    have es := szR_get (tStrS_get hx)
    simp only [szL, szT, Nat.add_zero] at es
    have el := szR_take_le (rs := tStrS xs) (i + 1)
    simp -implicitDefEqProofs [hlt, ea, encL, encT, encStrS_len]
    intro _ hxl
    unfold maxLen at *
    simp (disch := omega) only [wrap64]
    refine ⟨fun h3 => by unfold subz; rw [if_pos (by omega)], fun h3 => ?_⟩
    refine ⟨xs.length - (i + 1), by omega, _, St.le_of (by simp) ?_ rfl (by simp [St.trunc]), i + 1, by omega, rfl, by omega, rfl⟩
    have e3 : l - (xs.length : Int) - (szR ((tStrS xs).take i) : Nat) - (x.length : Nat) = l - xs.length - (szR ((tStrS xs).take (i + 1)) : Nat) := by omega
    simp [St.trunc, look, mapV, mapC, e3]
  · have e : i = xs.length := by omega
    subst e
    simp -implicitDefEqProofs
    intro _
    have et : (tStrS xs).take xs.length = tStrS xs := List.take_of_length_le (by simp)
    rw [et] at hz ⊢
    unfold subz; rw [if_neg (by omega)]; omega

theorem c_toStringS (xs : List Bs) (K) (hl : xs.length ≤ 1048576) : Ct Tryz.prog 115 [.sl .no xs.length (encR .no (tStrS xs))] K (.sl (.ex 9) xs.length (encR .ex (tStrS xs))) K := by
  refine ct_fn { n0 := 5, ex := [], tk := [7, 21], kp := [7], es := true } Tryz.func115 rfl (by kernel_rfl) (by kernel_rfl) rfl ?_
  simp -implicitDefEqProofs [Tryz.f115]
  intro h1
  refine ⟨⟨by omega, by omega⟩, fun y => ?_⟩
  have e0 : List.replicate xs.length (AC.str []) = filled .ex [.str []] (tStrS xs) 0 := by rw [filled_zero]; simp
  rw [e0]
  refine wC_for (fun i => { env := [(0, .sl .no xs.length (encR .no (tStrS xs))), (2, .sl .nil 0 []), (3, .nam y (.sl (.ex 9) xs.length (filled .ex [.str []] (tStrS xs) i))), (4, .int .i64 i)], loc := [], K := [] :: K }) xs.length (St.le_of (by simp) (by simp) rfl rfl) ?_
  intro i hi
  have efl := filled_len (m := .ex) (z := [.str []]) (i := i) (tStrS_rows (xs := xs)) rfl (by simpa using hi)
  rcases Nat.lt_or_ge i xs.length with hlt | hge
  · obtain ⟨x, hx⟩ : ∃ x, xs[i]? = some x := ⟨_, List.getElem?_eq_getElem hlt⟩
    have ea := atStr (m := .no) hx
    have ef := filled_next (m := .ex) (z := [.str []]) tStrS_rows rfl (tStrS_get hx)
    simp only [Nat.mul_one, encL, encT, putCells, List.length_singleton] at ea ef efl
    simp -implicitDefEqProofs [hlt, ea, encL, encT, encStrS_len, ef, efl]
    intro _
    refine ⟨by omega, ?_⟩
    rw [wrap64 (by omega) (by omega)]
    exact for_next hlt (St.le_of (by simp) (by simp [St.trunc, look, mapV, mapC]) rfl (by simp [St.trunc]))
  · have e : i = xs.length := by omega
    subst e
    have eq : filled .ex [.str []] (tStrS xs) xs.length = encR .ex (tStrS xs) := by rw [← filled_all (z := [AC.str []])]; simp
    simp -implicitDefEqProofs [eq]

theorem c_eqStringS (xs ys : List Bs) (K) : Ct Tryz.prog 67 [.sl .no xs.length (encR .no (tStrS xs)), .sl .no ys.length (encR .no (tStrS ys))] K (.bool (eqB xs ys)) K := by
  refine ct_fn { n0 := 6, ex := [], tk := [] } Tryz.func67 rfl (by kernel_rfl) (by kernel_rfl) rfl ?_
  simp -implicitDefEqProofs [Tryz.f67]
  intro h1 h2
  refine ⟨fun h => eqB_ne fun e => h (by rw [e]), fun hlen => ?_⟩
  refine wC_loop (fun m s => ∃ i, i ≤ xs.length ∧ m = xs.length - i ∧ xs.take i = ys.take i ∧
    s = { env := [(0, .sl .no xs.length (encR .no (tStrS xs))), (1, .sl .no ys.length (encR .no (tStrS ys))), (4, .bool false), (5, .int .i64 i)], loc := [], K := [] :: K }) xs.length _
    (St.le_of (by simp) (by simp) rfl rfl) ⟨0, by omega, rfl, by simp, rfl⟩ ?_
  rintro m _ ⟨i, hi, rfl, hz, rfl⟩
  rcases Nat.lt_or_ge i xs.length with hlt | hge
  · obtain ⟨x, hx⟩ : ∃ x, xs[i]? = some x := ⟨_, List.getElem?_eq_getElem hlt⟩
    obtain ⟨z, hz2⟩ : ∃ x, ys[i]? = some x := ⟨_, List.getElem?_eq_getElem (by omega)⟩
    have ea := atStr (m := .no) hx
    have eb := atStr (m := .no) hz2
    simp only [Nat.mul_one] at ea eb
    simp -implicitDefEqProofs [hlt, ea, eb, encL, encT, encStrS_len]
    intro _
    refine wRun_draw false rfl (by decide +kernel) ?_
    simp -implicitDefEqProofs [hlt, ea, eb, encL, encT, encStrS_len]
    refine ⟨by omega, fun h3 => eqB_ne fun e => h3 (by rw [e, hz2] at hx; cases hx; rfl), fun h3 => ?_⟩
    unfold maxLen at *
    rw [wrap64 (by omega) (by omega)]
    refine ⟨xs.length - (i + 1), by omega, _, St.le_of (by simp) ?_ rfl (by simp [St.trunc]), i + 1, by omega, rfl, ?_, rfl⟩
    · simp [St.trunc, look, mapV, mapC]
    · rw [List.take_add_one, List.take_add_one, hz, hx, hz2, h3]
  · have e : i = xs.length := by omega
    subst e
    simp -implicitDefEqProofs
    intro _
    refine (eqB_iff.2 ?_)
    rw [List.take_of_length_le (by omega), List.take_of_length_le (by omega)] at hz
    exact hz
end Go.Proofs.YtkefgpmnimpcdaaGreatDoor.Abs
