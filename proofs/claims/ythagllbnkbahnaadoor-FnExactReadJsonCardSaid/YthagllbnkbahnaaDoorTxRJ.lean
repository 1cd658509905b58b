/- Reading a Json: both readers. No condition. -/
import Derived.Test.YthagllbnkbahnaaDoorTxZR
import Derived.Test.YthagllbnkbahnaaDoorTxJ
set_option linter.unusedVariables false
set_option linter.unusedSimpArgs false
namespace Go.Proofs.YthagllbnkbahnaaDoor.Abs
open Go
set_option maxHeartbeats 4000000
set_option maxRecDepth 100000
def readI (s : Bs) : DJson × Bool := if 60000 < s.length then (zJ, false) else
  if (prJ 20 s 0).2.2 = false ∧ s.length ≤ pass s (prJ 20 s 0).2.1 ∧ jOk (prJ 20 s 0).1 20 = true then ((prJ 20 s 0).1, true) else (zJ, false)
def readS (s : Bs) : DJson × Bool := if 60000 < s.length then (zJ, false) else
  if 0 ≤ (spJ 20 s 0).2 ∧ pass s (spJ 20 s 0).2.toNat = s.length then ((spJ 20 s 0).1, true) else (zJ, false)
theorem readI_S (s : Bs) : readI s = readS s := by
  unfold readI readS
  by_cases hl : 60000 < s.length
  · rw [if_pos hl, if_pos hl]
  rw [if_neg hl, if_neg hl]
  have hI := prJ_rd (s := s) 20 0 (by omega) (3 * s.length + 1) (by omega)
  have hS := spJ_rd (s := s) 20 0 (by omega) (3 * s.length + 1) (by omega)
  generalize hM : 3 * s.length + 1 = M at *
  cases cI : rdJ leafI M s 0 20 with
  | none =>
    rw [cI] at hI
    have hf : (prJ 20 s 0).2.2 = true := hI
    rw [if_neg (by rw [hf]; simp)]
    cases cS : rdJ leafS M s 0 20 with
    | none =>
      rw [cS] at hS
      have hf : (spJ 20 s 0).2 < 0 := hS
      rw [if_neg (by omega)]
    | some x =>
      have := (rd_SI M).1 _ _ _ _ cS
      rw [cI] at this; cases this
  | some x =>
    obtain ⟨j, e⟩ := x
    rw [cI] at hI
    have hI : prJ 20 s 0 = (j, e, false) := hI
    have hb := prJ_bnd (s := s) 20 0 (by omega)
    rw [hI] at hb ⊢
    have he : e ≤ s.length := hb.2
    have hpe := pass_le he
    have hok : jOk j 20 = true := (rd_ok M).1 s 0 20 j e cI
    simp only [true_and, hok, and_true]
    cases cS : rdJ leafS M s 0 20 with
    | none =>
      rw [cS] at hS
      have hf : (spJ 20 s 0).2 < 0 := hS
      rw [if_neg (show ¬ (0 ≤ (spJ 20 s 0).2 ∧ _) by omega)]
      rcases (rd_IS M).1 _ _ _ _ _ cI with h | ⟨b, hb, hw⟩
      · rw [cS] at h; cases h
      · have hlt := (List.getElem?_eq_some_iff.1 hb).1
        have hbl : isBl b = false := by
          cases h : isBl b with
          | false => rfl
          | true =>
            exfalso
            unfold isBl at h
            simp only [Bool.or_eq_true, decide_eq_true_eq] at h
            rcases h with ((rfl | rfl) | rfl) | rfl <;> revert hw <;> decide
        have : pass s e = e := by rw [pass_step hb, hbl]; simp
        rw [if_neg (by omega)]
    | some y =>
      have hy := (rd_SI M).1 _ _ _ _ cS
      rw [cI] at hy
      have hy : (j, e) = y := Option.some.inj hy
      subst hy
      rw [cS] at hS
      have hS : spJ 20 s 0 = (j, (e : Int)) := hS
      rw [hS]
      simp only [Int.toNat_natCast]
      by_cases c : s.length ≤ pass s e
      · rw [if_pos c, if_pos ⟨by omega, by omega⟩]
      · rw [if_neg c, if_neg (by omega)]
theorem c_ReadJson (s : Bs) (hs : s.length ≤ 1048576) (K) : Ct Tryd.prog 5 [.str s] K (.tup [.agg (encL .of (tJson (readI s).1)), .bool (readI s).2]) K := by
  refine ct_fn { n0 := 6, ex := [], tk := [9, 11, 14, 16, 32, 35, 36] } Tryd.func5 rfl (by kernel_rfl) (by kernel_rfl) rfl ?_
  simp -implicitDefEqProofs [Tryd.f5]
  by_cases hl : 60000 < s.length
  · unfold readI; rw [if_pos hl]
    have hl2 : (60000 : Int) < s.length := by omega
    simp -implicitDefEqProofs (maxDischargeDepth := 6) [hl, hl2, zJ, tJson, encL, encT, encR, tJsonS, tStrS, AC.le_agg]
    intro _ h; omega
  · have hl2 : ¬ (60000 : Int) < s.length := by omega
    have cj := c_json s (by omega) 20 (by omega) 0 (by omega)
    have hb := prJ_bnd (s := s) 20 0 (by omega)
    unfold readI; rw [if_neg hl]
    obtain ⟨⟨j, e, f⟩, hj⟩ : ∃ z, prJ 20 s 0 = z := ⟨_, rfl⟩
    rw [hj] at cj hb ⊢
    have hJO := fun K => c_JsonOk j K
    have hek := encL_len (m := .of) (r := tJson j)
    rw [tJson_len] at hek
    have htk : (encL .of (tJson j)).take 4 = encL .of (tJson j) := List.take_of_length_le (by omega)
    have hek2 := encL_len (m := .no) (r := tJson j)
    rw [tJson_len] at hek2
    have htk2 : (encL .no (tJson j)).take 4 = encL .no (tJson j) := List.take_of_length_le (by omega)
    have he2 : e ≤ s.length := hb.2
    have hpe := pass_le he2
    have cs := c_skip [] [[.int .i64 0, .str [], .sl .nil 0 [], .sl .nil 0 []]] s e f [encL .of (tJson j)] K he2 (by omega)
    simp -implicitDefEqProofs [hl, hl2]
    intro _ _
    refine callK_of (show Ct _ _ _ ([[.int .i64 0, .str [], .sl .nil 0 [], .sl .nil 0 []], [.str s, .int .i64 0, .bool false]] :: K) _ ([[.int .i64 0, .str [], .sl .nil 0 [], .sl .nil 0 []], [.str s, .int .i64 (e : Nat), .bool f]] :: K) from cj [] [[.int .i64 0, .str [], .sl .nil 0 [], .sl .nil 0 []]] [] K) ?_
    simp -implicitDefEqProofs [hek, htk]
    refine callK_of (show Ct _ _ _ ([[.int .i64 0, .str [], .sl .nil 0 [], .sl .nil 0 []], [.str s, .int .i64 (e : Nat), .bool f], encL .of (tJson j)] :: K) _ ([[.int .i64 0, .str [], .sl .nil 0 [], .sl .nil 0 []], [.str s, .int .i64 (pass s e : Nat), .bool f], encL .of (tJson j)] :: K) from cs) ?_
    simp -implicitDefEqProofs [hek, htk, hek2, htk2]
    intro _
    refine callK_still (fun _ => hJO _) ?_
    have lz : (AC.agg [.int .i64 0, .str [], .sl .nil 0 [], .sl .nil 0 []]).le (AC.agg (encL .of (tJson zJ))) := by
      simp (maxDischargeDepth := 6) [zJ, tJson, encL, encT, encR, tJsonS, tStrS, AC.le_agg]
    generalize hq : jOk j 20 = q at *
    cases f with
    | true => simp -implicitDefEqProofs [hek, htk, lz]
    | false =>
      by_cases c : s.length ≤ pass s e
      · have c2 : ¬ pass s e < s.length := by omega
        cases q with
        | true => simp -implicitDefEqProofs [hek, htk, lz, c, c2]
        | false => simp -implicitDefEqProofs [hek, htk, lz, c, c2]
      · have c2 : pass s e < s.length := by omega
        simp -implicitDefEqProofs [hek, htk, lz, c, c2]
theorem c_ReadJsonS (s : Bs) (hs : s.length ≤ 1048576) (K) : Ct Tryd.prog 4 [.str s] K (.tup [.agg (encL .no (tJson (readI s).1)), .bool (readI s).2]) K := by
  rw [readI_S]
  refine ct_fn { n0 := 6, ex := [], tk := [9, 12, 20, 25, 26] } Tryd.func4 rfl (by kernel_rfl) (by kernel_rfl) rfl ?_
  simp -implicitDefEqProofs [Tryd.f4]
  by_cases hl : 60000 < s.length
  · unfold readS; rw [if_pos hl]
    have hl2 : (60000 : Int) < s.length := by omega
    simp -implicitDefEqProofs (maxDischargeDepth := 6) [hl, hl2, zJ, tJson, encL, encT, encR, tJsonS, tStrS, AC.le_agg]
    intro _ h; omega
  · have hl2 : ¬ (60000 : Int) < s.length := by omega
    have cj := c_l22Read s (by omega) 20 (by omega) 0 (by omega)
    have hb := spJ_bnd (s := s) 20 0 (by omega)
    unfold readS; rw [if_neg hl]
    obtain ⟨⟨j, e⟩, hj⟩ : ∃ z, spJ 20 s 0 = z := ⟨_, rfl⟩
    rw [hj] at cj hb ⊢
    have hek2 := encL_len (m := .no) (r := tJson j)
    rw [tJson_len] at hek2
    have htk2 : (encL .no (tJson j)).take 4 = encL .no (tJson j) := List.take_of_length_le (by omega)
    have lz : (AC.agg [.int .i64 0, .str [], .sl .nil 0 [], .sl .nil 0 []]).le (AC.agg (encL .no (tJson zJ))) := by
      simp (maxDischargeDepth := 6) [zJ, tJson, encL, encT, encR, tJsonS, tStrS, AC.le_agg]
    simp -implicitDefEqProofs [hl, hl2]
    intro _ _
    refine callK_of (cj _) ?_
    simp -implicitDefEqProofs [hek2, htk2]
    by_cases c0 : e < 0
    · simp -implicitDefEqProofs [c0, (by omega : ¬ 0 ≤ e)]
      refine callK_still (r := .int .i64 0) (fun h => absurd h (by simp)) ?_
      have n0 : ¬ 0 ≤ e := by omega
      simp -implicitDefEqProofs [hek2, htk2, lz, n0]
    · obtain ⟨e, rfl⟩ : ∃ e' : Nat, e = e' := ⟨e.toNat, by omega⟩
      have he2 : e ≤ s.length := by rcases hb with h | h <;> (simp only at h; omega)
      have hpe := pass_le he2
      have ps := fun K => c_l22Pass s e he2 (by omega) K
      simp -implicitDefEqProofs [c0]
      refine callK_still (fun _ => ps _) ?_
      by_cases c : pass s e = s.length
      · simp -implicitDefEqProofs [hek2, htk2, lz, c]
      · have c3 : ¬ (pass s e : Int) = s.length := by omega
        simp -implicitDefEqProofs [hek2, htk2, lz, c, c3]
end Go.Proofs.YthagllbnkbahnaaDoor.Abs
