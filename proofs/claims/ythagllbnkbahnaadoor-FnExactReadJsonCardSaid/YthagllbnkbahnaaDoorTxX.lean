/- The program's reader of Json: parts: contract. No condition. -/
import Derived.Test.YthagllbnkbahnaaDoorTxW
set_option linter.unusedVariables false
set_option linter.unusedSimpArgs false
namespace Go.Proofs.YthagllbnkbahnaaDoor.Abs
open Go
set_option maxHeartbeats 4000000
set_option maxRecDepth 100000
theorem takeOk1 (s : Bs) (a : Nat) (f : Bool) (c : UInt8) : takeOk s a f [c] = (!f && decide (s[pass s a]? = some c)) := by
  unfold takeOk
  congr 1
  rcases Nat.lt_or_ge (pass s a) s.length with h | h
  · obtain ⟨b, hb⟩ : ∃ b, s[pass s a]? = some b := ⟨_, List.getElem?_eq_getElem h⟩
    rw [drop_cons hb, hb]
    by_cases e : c = b
    · simp [List.isPrefixOf, e]
    · simp [List.isPrefixOf, e, Ne.symm e]
  · rw [drop_nil h, List.getElem?_eq_none h]; simp [List.isPrefixOf]
theorem takeOk_lt {s : Bs} {a : Nat} {f : Bool} {c : UInt8} (h : takeOk s a f [c] = true) : f = false ∧ s[pass s a]? = some c ∧ pass s a < s.length := by
  rw [takeOk1] at h
  simp only [Bool.and_eq_true, Bool.not_eq_true', decide_eq_true_eq] at h
  exact ⟨h.1, h.2, (List.getElem?_eq_some_iff.1 h.2).1⟩
/-- An object's name, read by the program: the names, the place behind, whether it failed. -/
def prN (s : Bs) (a : Nat) (obj : Bool) (names : List Bs) : List Bs × Nat × Bool :=
  if obj then (names ++ [txT s (pass s a)], pass s (txA s (pass s a)) + (if takeOk s (txA s (pass s a)) (txF s (pass s a)) [58] then 1 else 0), !takeOk s (txA s (pass s a)) (txF s (pass s a)) [58]) else (names, a, false)
def prX (pj : Nat → DJson × Nat × Bool) (s : Bs) (a : Nat) (f : Bool) : DJson × Nat × Bool := if f then (zJ, pass s a, true) else pj a
theorem txA_ge (s : Bs) (p : Nat) : p ≤ txA s p := by
  unfold txA
  split
  · omega
  · next h =>
    rcases strEnd_cases s p with e | ⟨k, e, h1, _⟩
    · exact absurd (by simp [txB, e]) h
    · rw [e]; omega
theorem prX_bnd {pj : Nat → DJson × Nat × Bool} {s : Bs} (hpj : ∀ a, a ≤ s.length → a ≤ (pj a).2.1 ∧ (pj a).2.1 ≤ s.length) {a : Nat} {f : Bool} (ha : a ≤ s.length) : a ≤ (prX pj s a f).2.1 ∧ (prX pj s a f).2.1 ≤ s.length := by
  unfold prX
  cases f with
  | true => exact ⟨pass_ge s a, pass_le ha⟩
  | false => exact hpj a ha
/-- The parts, read by the program, where pj tells what a value is read as. -/
def prL (pj : Nat → DJson × Nat × Bool) (s : Bs) (obj : Bool) : Nat → List Bs → List DJson → Nat → DJson × Nat × Bool
  | 0, names, items, a => (zJ, a, true)
  | n + 1, names, items, a =>
    if takeOk s (prX pj s (prN s a obj names).2.1 (prN s a obj names).2.2).2.1 (prX pj s (prN s a obj names).2.1 (prN s a obj names).2.2).2.2 [shutP obj] then
      (⟨kindP obj, [], items ++ [(prX pj s (prN s a obj names).2.1 (prN s a obj names).2.2).1], (prN s a obj names).1⟩, pass s (prX pj s (prN s a obj names).2.1 (prN s a obj names).2.2).2.1 + 1, false)
    else if takeOk s (pass s (prX pj s (prN s a obj names).2.1 (prN s a obj names).2.2).2.1) (prX pj s (prN s a obj names).2.1 (prN s a obj names).2.2).2.2 [44] then
      prL pj s obj n (prN s a obj names).1 (items ++ [(prX pj s (prN s a obj names).2.1 (prN s a obj names).2.2).1]) (pass s (prX pj s (prN s a obj names).2.1 (prN s a obj names).2.2).2.1 + 1)
    else (⟨kindP obj, [], items ++ [(prX pj s (prN s a obj names).2.1 (prN s a obj names).2.2).1], (prN s a obj names).1⟩, pass s (prX pj s (prN s a obj names).2.1 (prN s a obj names).2.2).2.1, true)
def prP (pj : Nat → DJson × Nat × Bool) (s : Bs) (obj : Bool) (a : Nat) : DJson × Nat × Bool :=
  if takeOk s a false [shutP obj] then (⟨kindP obj, [], [], []⟩, pass s a + 1, false) else prL pj s obj (s.length - pass s a + 1) [] [] (pass s a)
theorem c_parts (s : Bs) (d : Nat) (hs : s.length ≤ 1000000) (hd : d ≤ 20) (pj : Nat → DJson × Nat × Bool) (hpj : ∀ a, a ≤ s.length → a ≤ (pj a).2.1 ∧ (pj a).2.1 ≤ s.length)
    (hJ : ∀ a, a ≤ s.length → ∀ (A : List (List (List AC))) (X : List (List AC)) (Y : List (List AC)) (C : List (List (List AC))), Ct Tryd.prog 11 [.ptr A.length X.length 0, .int .i64 d] (KR A X s a false Y C) (.agg (encL .of (tJson (pj a).1))) (KR A X s ((pj a).2.1 : Nat) (pj a).2.2 Y C))
    (a : Nat) (obj : Bool) (ha : a ≤ s.length) (A : List (List (List AC))) (X : List (List AC)) (Y : List (List AC)) (C : List (List (List AC))) :
    Ct Tryd.prog 29 [.ptr A.length X.length 0, .bool obj, .int .i64 d] (KR A X s a false Y C) (.agg (encL .of (tJson (prP pj s obj a).1))) (KR A X s ((prP pj s obj a).2.1 : Nat) (prP pj s obj a).2.2 Y C) := by
  have hp := pass_le ha
  have v6 : IntKind.i64.wrap 6 = 6 := rfl
  generalize hR : prP pj s obj a = R
  unfold prP at hR
  have tk : ∀ (B : List (List AC)) (a : Nat) (f : Bool) (t : Bs), a ≤ s.length → ∀ q, takeOk s a f t = q → Ct Tryd.prog 26 [.ptr (A.length + 1) X.length 0, .str t] (KR (B :: A) X s a f Y C) (.bool q) (KR (B :: A) X s ((pass s a + (if q then t.length else 0) : Nat) : Int) f Y C) := by
    intro B a f t h q hq
    have := c_take (B :: A) X s a f Y C t h (by omega)
    rwa [hq] at this
  have jn : ∀ (B : List (List AC)) (a : Nat), a ≤ s.length → ∀ x a' f', pj a = (x, a', f') → Ct Tryd.prog 11 [.ptr (A.length + 1) X.length 0, .int .i64 d] (KR (B :: A) X s a false Y C) (.agg (encL .of (tJson x))) (KR (B :: A) X s (a' : Nat) f' Y C) := by
    intro B a h x a' f' e
    have := hJ a h (B :: A) X Y C
    rwa [e] at this
  have jx : ∀ (B : List (List AC)) (a : Nat) (f : Bool), a ≤ s.length → ∀ x a' f', prX pj s a f = (x, a', f') → Ct Tryd.prog 11 [.ptr (A.length + 1) X.length 0, .int .i64 d] (KR (B :: A) X s a f Y C) (.agg (encL .of (tJson x))) (KR (B :: A) X s (a' : Nat) f' Y C) := by
    intro B a f h x a' f' e
    cases f with
    | true =>
      unfold prX at e
      simp only [if_true, Prod.mk.injEq] at e
      obtain ⟨rfl, rfl, rfl⟩ := e
      exact c_jsonF (B :: A) X s a d Y C h hs
    | false => exact jn B a h x a' f' e
  have v7 : IntKind.i64.wrap 7 = 7 := rfl
  have txc := fun (B : List (List AC)) (a : Nat) (h : a ≤ s.length) => c_text (B :: A) X s a Y C h hs
  simp only [List.length_cons] at txc
  refine ct_fn { n0 := 10, ex := [], tk := [10, 15, 16, 24, 26, 32, 34, 35, 38, 41, 42, 43, 47, 48, 50, 55] } Tryd.func29 rfl (by kernel_rfl) (by kernel_rfl) rfl ?_
  simp -implicitDefEqProofs [Tryd.f29, v6, v7]
  cases obj with
  | false =>
    simp -implicitDefEqProofs
    cases hq0 : takeOk s a false [93] with
    | true =>
      refine callK_of (tk _ a false _ ha _ hq0) ?_
      rw [show shutP false = 93 from rfl, hq0, if_pos rfl] at hR
      subst hR
      simp -implicitDefEqProofs (maxDischargeDepth := 6) [tJson, encL, encT, encR, tJsonS, tStrS, AC.le_agg, kindP]
    | false =>
      refine callK_of (tk _ a false _ ha _ hq0) ?_
      rw [show shutP false = 93 from rfl, hq0, if_neg (by simp)] at hR
      simp -implicitDefEqProofs
      obtain ⟨I, hI⟩ : ∃ I : Nat → St → Prop, ∀ m st, I m st ↔ ∃ i items f, i ≤ s.length ∧ (f = false → items.length ≤ i) ∧ m = (if f then 0 else s.length - i + 1) ∧ (f = false → ∃ n, s.length - i ≤ n ∧ prL pj s false (n + 1) [] items i = R) ∧ (f = true → R = (⟨6, [], items, []⟩, i, true)) ∧
        st = { env := [(0, .ptr (A.length + 1) X.length 0), (1, .bool false), (2, .int .i64 d), (6, .ptr 0 0 0), (7, .ptr 0 1 0), (8, .str [93])], loc := [],
               K := [[.int .i64 0, .str [], .sl .nil 0 [], .sl .nil 0 []], [.int .i64 6, .str [], .sl (if items = [] then .nil else .of 25) items.length (encR .of (tJsonS items)), .sl .nil 0 []]] :: KR A X s i f Y C } := ⟨_, fun _ _ => Iff.rfl⟩
      refine wC_loopI I (s.length - pass s a + 1) ((hI _ _).2 ⟨pass s a, [], false, hp, by simp, rfl, fun _ => ⟨_, Nat.le_refl _, hR⟩, by simp, rfl⟩) (St.le_of (by simp) (by simp) rfl (by simp [tJsonS, encR])) ?_
      intro m st hst
      obtain ⟨i, items, f, hi, hit, rfl, hRi, hRt, rfl⟩ := (hI _ _).1 hst
      clear hst
      cases f with
      | true =>
        rw [hRt rfl]
        cases items <;> simp -implicitDefEqProofs (maxDischargeDepth := 6) [tJson, encL, encT, encR, tJsonS, tStrS, AC.le_agg]
      | false =>
      obtain ⟨n, hn, hRi⟩ := hRi rfl
      have hit := hit rfl
      simp only [prL, prN, prX, Bool.false_eq_true, if_false, shutP] at hRi
      obtain ⟨⟨x, a', f'⟩, hx⟩ : ∃ z, pj i = z := ⟨_, rfl⟩
      have ha' := hpj i hi
      rw [hx] at hRi ha'
      by_cases hne : items = []
      · subst hne
        simp -implicitDefEqProofs [tJsonS, encR]
        refine wRun_draw2 false 1 4 rfl (by decide +kernel) ?_ ?_
        all_goals
          simp -implicitDefEqProofs [ordB, List.range, List.range.loop]
          refine callK_of (jn _ i hi _ _ _ hx) ?_
          have hek := encL_len (m := .of) (r := tJson x)
          rw [tJson_len] at hek
          have htk : (encL .of (tJson x)).take 4 = encL .of (tJson x) := List.take_of_length_le (by omega)
          simp -implicitDefEqProofs [hek, htk]
          refine ⟨by unfold maxLen; omega, ?_⟩
          have ha1 : i ≤ a' := ha'.1
          have ha2 : a' ≤ s.length := ha'.2
          have hpa : pass s a' ≤ s.length := pass_le ha2
          cases q1 : takeOk s a' f' [93] with
          | true =>
            refine callK_of (tk _ a' f' _ ha'.2 _ q1) ?_
            rw [q1, if_pos rfl] at hRi
            subst hRi
            obtain ⟨rfl, _, _⟩ := takeOk_lt q1
            simp -implicitDefEqProofs (maxDischargeDepth := 6) [tJson, encL, encT, encR, tJsonS, tStrS, AC.le_agg, kindP]
          | false =>
            refine callK_of (tk _ a' f' _ ha'.2 _ q1) ?_
            rw [q1, if_neg (by simp)] at hRi
            simp -implicitDefEqProofs
            cases q2 : takeOk s (pass s a') f' [44] with
            | true =>
              refine callK_of (tk _ (pass s a') f' _ hpa _ q2) ?_
              rw [q2, if_pos rfl] at hRi
              obtain ⟨rfl, _, hlt⟩ := takeOk_lt q2
              have hge := pass_ge s a'
              rw [pass_pass] at hlt
              obtain ⟨n, rfl⟩ : ∃ n', n = n' + 1 := ⟨n - 1, by omega⟩
              simp -implicitDefEqProofs [pass_pass]
              exact ⟨s.length - (pass s a' + 1) + 1, by simp; omega, _, St.le_of (by simp) (by simp [St.trunc, look, mapV, mapC, killP]) rfl (by simp [St.trunc, mapC, tJsonS, encR]), (hI _ _).2 ⟨pass s a' + 1, [x], false, by omega, by simp, rfl, fun _ => ⟨n, by omega, hRi⟩, by simp, rfl⟩⟩
            | false =>
              refine callK_of (tk _ (pass s a') f' _ hpa _ q2) ?_
              rw [q2, if_neg (by simp)] at hRi
              simp -implicitDefEqProofs [pass_pass]
              exact ⟨0, by simp, _, St.le_of (by simp) (by simp [St.trunc, look, mapV, mapC, killP]) rfl (by simp [St.trunc, mapC, tJsonS, encR]), (hI _ _).2 ⟨pass s a', [x], true, by omega, by simp, rfl, by simp, fun _ => hRi.symm, rfl⟩⟩
      · simp -implicitDefEqProofs [hne, encJsonS_len]
        refine wRun_draw2 false 1 4 rfl (by decide +kernel) ?_ ?_
        all_goals
          simp -implicitDefEqProofs [ordB, List.range, List.range.loop]
          refine callK_of (jn _ i hi _ _ _ hx) ?_
          have hek := encL_len (m := .of) (r := tJson x)
          rw [tJson_len] at hek
          have htk : (encL .of (tJson x)).take 4 = encL .of (tJson x) := List.take_of_length_le (by omega)
          simp -implicitDefEqProofs [hek, htk, hne, encJsonS_len]
          refine ⟨by unfold maxLen; omega, by omega, ?_⟩
          have ha1 : i ≤ a' := ha'.1
          have ha2 : a' ≤ s.length := ha'.2
          have hpa : pass s a' ≤ s.length := pass_le ha2
          cases q1 : takeOk s a' f' [93] with
          | true =>
            refine callK_of (tk _ a' f' _ ha'.2 _ q1) ?_
            rw [q1, if_pos rfl] at hRi
            subst hRi
            obtain ⟨rfl, _, _⟩ := takeOk_lt q1
            simp -implicitDefEqProofs (maxDischargeDepth := 6) [tJson, encL, encT, encR, tJsonS, tStrS, AC.le_agg, kindP, tJsonS_app, encR_app]
          | false =>
            refine callK_of (tk _ a' f' _ ha'.2 _ q1) ?_
            rw [q1, if_neg (by simp)] at hRi
            simp -implicitDefEqProofs
            cases q2 : takeOk s (pass s a') f' [44] with
            | true =>
              refine callK_of (tk _ (pass s a') f' _ hpa _ q2) ?_
              rw [q2, if_pos rfl] at hRi
              obtain ⟨rfl, _, hlt⟩ := takeOk_lt q2
              have hge := pass_ge s a'
              rw [pass_pass] at hlt
              obtain ⟨n, rfl⟩ : ∃ n', n = n' + 1 := ⟨n - 1, by omega⟩
              simp -implicitDefEqProofs [pass_pass]
              exact ⟨s.length - (pass s a' + 1) + 1, by simp; omega, _, St.le_of (by simp) (by simp [St.trunc, look, mapV, mapC, killP]) rfl (by simp [St.trunc, mapC, tJsonS, encR, tJsonS_app, encR_app]), (hI _ _).2 ⟨pass s a' + 1, (items ++ [x]), false, by omega, by intro _; simp; omega, rfl, fun _ => ⟨n, by omega, hRi⟩, by simp, rfl⟩⟩
            | false =>
              refine callK_of (tk _ (pass s a') f' _ hpa _ q2) ?_
              rw [q2, if_neg (by simp)] at hRi
              simp -implicitDefEqProofs [pass_pass]
              exact ⟨0, by simp, _, St.le_of (by simp) (by simp [St.trunc, look, mapV, mapC, killP]) rfl (by simp [St.trunc, mapC, tJsonS, encR, tJsonS_app, encR_app]), (hI _ _).2 ⟨pass s a', (items ++ [x]), true, by omega, by simp, rfl, by simp, fun _ => hRi.symm, rfl⟩⟩
  | true =>
    simp -implicitDefEqProofs
    cases hq0 : takeOk s a false [125] with
    | true =>
      refine callK_of (tk _ a false _ ha _ hq0) ?_
      rw [show shutP true = 125 from rfl, hq0, if_pos rfl] at hR
      subst hR
      simp -implicitDefEqProofs (maxDischargeDepth := 6) [tJson, encL, encT, encR, tJsonS, tStrS, AC.le_agg, kindP]
    | false =>
      refine callK_of (tk _ a false _ ha _ hq0) ?_
      rw [show shutP true = 125 from rfl, hq0, if_neg (by simp)] at hR
      simp -implicitDefEqProofs
      obtain ⟨I, hI⟩ : ∃ I : Nat → St → Prop, ∀ m st, I m st ↔ ∃ i items names f, i ≤ s.length ∧ (f = false → items.length ≤ i) ∧ names.length = items.length ∧ m = (if f then 0 else s.length - i + 1) ∧ (f = false → ∃ n, s.length - i ≤ n ∧ prL pj s true (n + 1) names items i = R) ∧ (f = true → R = (⟨7, [], items, names⟩, i, true)) ∧
        st = { env := [(0, .ptr (A.length + 1) X.length 0), (1, .bool true), (2, .int .i64 d), (6, .ptr 0 0 0), (7, .ptr 0 1 0), (8, .str [125])], loc := [],
               K := [[.int .i64 0, .str [], .sl .nil 0 [], .sl .nil 0 []], [.int .i64 7, .str [], .sl (if items = [] then .nil else .of 25) items.length (encR .of (tJsonS items)), .sl (if items = [] then .nil else .of 9) items.length (encR .of (tStrS names))]] :: KR A X s i f Y C } := ⟨_, fun _ _ => Iff.rfl⟩
      refine wC_loopI I (s.length - pass s a + 1) ((hI _ _).2 ⟨pass s a, [], [], false, hp, by simp, rfl, rfl, fun _ => ⟨_, Nat.le_refl _, hR⟩, by simp, rfl⟩) (St.le_of (by simp) (by simp) rfl (by simp [tJsonS, tStrS, encR])) ?_
      intro m st hst
      obtain ⟨i, items, names, f, hi, hit, hnm, rfl, hRi, hRt, rfl⟩ := (hI _ _).1 hst
      clear hst
      cases f with
      | true =>
        rw [hRt rfl]
        cases items <;> cases names <;> simp at hnm <;> simp -implicitDefEqProofs (maxDischargeDepth := 6) [hnm, tJson, encL, encT, encR, tJsonS, tStrS, AC.le_agg]
      | false =>
      obtain ⟨n, hn, hRi⟩ := hRi rfl
      have hit := hit rfl
      simp only [prL, prN, if_true, shutP] at hRi
      have hpi := pass_le hi
      have hgi := pass_ge s i
      have hga := txA_ge s (pass s i)
      have hla := txA_le hpi
      have htl := txT_len s (pass s i)
      generalize hTe : txT s (pass s i) = tn at *
      generalize hAe : txA s (pass s i) = e at *
      generalize hFe : txF s (pass s i) = fe at *
      have hpe := pass_le hla
      have hge := pass_ge s e
      by_cases hne : items = []
      · subst hne
        obtain rfl : names = [] := by simpa using hnm
        simp -implicitDefEqProofs [tJsonS, tStrS, encR]
        cases q0 : takeOk s e fe [58] with
        | true =>
          refine callK_of (txc _ i hi) ?_
          rw [hTe, hAe, hFe]
          simp -implicitDefEqProofs
          refine callK_of (tk _ e fe _ hla _ q0) ?_
          obtain ⟨rfl, _, hlt0⟩ := takeOk_lt q0
          rw [q0] at hRi
          simp only [Bool.not_true, Bool.not_false, Bool.false_eq_true, if_true, if_false, Nat.add_zero] at hRi
          obtain ⟨⟨x, a', f'⟩, hx⟩ : ∃ z, prX pj s (pass s e + 1) false = z := ⟨_, rfl⟩
          have ha' := prX_bnd hpj (a := pass s e + 1) (f := false) (by omega)
          rw [hx] at hRi ha'
          have ha1 : pass s e + 1 ≤ a' := ha'.1
          have ha2 : a' ≤ s.length := ha'.2
          have hpa : pass s a' ≤ s.length := pass_le ha2
          have hek := encL_len (m := .of) (r := tJson x)
          rw [tJson_len] at hek
          have htk : (encL .of (tJson x)).take 4 = encL .of (tJson x) := List.take_of_length_le (by omega)
          simp -implicitDefEqProofs [hek, htk]
          refine ⟨by unfold maxLen; omega, ?_⟩
          refine wRun_draw2 false 1 4 rfl (by decide +kernel) ?_ ?_
          all_goals
            simp -implicitDefEqProofs [ordB, List.range, List.range.loop]
            refine callK_of (jx _ (pass s e + 1) false (by omega) _ _ _ hx) ?_
            simp -implicitDefEqProofs [hek, htk]
            refine ⟨by unfold maxLen; omega, ?_⟩
            cases q1 : takeOk s a' f' [125] with
            | true =>
              refine callK_of (tk _ a' f' _ ha'.2 _ q1) ?_
              rw [q1, if_pos rfl] at hRi
              subst hRi
              obtain ⟨rfl, _, _⟩ := takeOk_lt q1
              simp -implicitDefEqProofs (maxDischargeDepth := 6) [tJson, encL, encT, encR, tJsonS, tStrS, AC.le_agg, kindP]
            | false =>
              refine callK_of (tk _ a' f' _ ha'.2 _ q1) ?_
              rw [q1, if_neg (by simp)] at hRi
              simp -implicitDefEqProofs
              cases q2 : takeOk s (pass s a') f' [44] with
              | true =>
                refine callK_of (tk _ (pass s a') f' _ hpa _ q2) ?_
                rw [q2, if_pos rfl] at hRi
                obtain ⟨rfl, _, hlt⟩ := takeOk_lt q2
                have hge2 := pass_ge s a'
                rw [pass_pass] at hlt
                obtain ⟨n, rfl⟩ : ∃ n', n = n' + 1 := ⟨n - 1, by omega⟩
                simp -implicitDefEqProofs [pass_pass]
                exact ⟨s.length - (pass s a' + 1) + 1, by simp; omega, _, St.le_of (by simp) (by simp [St.trunc, look, mapV, mapC, killP]) rfl (by simp [St.trunc, mapC, tJsonS, tStrS, encR, encL, encT]), (hI _ _).2 ⟨pass s a' + 1, [x], [tn], false, by omega, by intro _; simp; try omega, by simp [], rfl, fun _ => ⟨n, by omega, hRi⟩, by simp, rfl⟩⟩
              | false =>
                refine callK_of (tk _ (pass s a') f' _ hpa _ q2) ?_
                rw [q2, if_neg (by simp)] at hRi
                simp -implicitDefEqProofs [pass_pass]
                exact ⟨0, by simp, _, St.le_of (by simp) (by simp [St.trunc, look, mapV, mapC, killP]) rfl (by simp [St.trunc, mapC, tJsonS, tStrS, encR, encL, encT]), (hI _ _).2 ⟨pass s a', [x], [tn], true, by omega, by simp, by simp [], rfl, by simp, fun _ => hRi.symm, rfl⟩⟩
        | false =>
          refine callK_of (txc _ i hi) ?_
          rw [hTe, hAe, hFe]
          simp -implicitDefEqProofs
          refine callK_of (tk _ e fe _ hla _ q0) ?_
          rw [q0] at hRi
          simp only [Bool.not_true, Bool.not_false, Bool.false_eq_true, if_true, if_false, Nat.add_zero] at hRi
          obtain ⟨⟨x, a', f'⟩, hx⟩ : ∃ z, prX pj s (pass s e) true = z := ⟨_, rfl⟩
          have ha' := prX_bnd hpj (a := pass s e) (f := true) (by omega)
          rw [hx] at hRi ha'
          have ha1 : pass s e ≤ a' := ha'.1
          have ha2 : a' ≤ s.length := ha'.2
          have hpa : pass s a' ≤ s.length := pass_le ha2
          have hek := encL_len (m := .of) (r := tJson x)
          rw [tJson_len] at hek
          have htk : (encL .of (tJson x)).take 4 = encL .of (tJson x) := List.take_of_length_le (by omega)
          simp -implicitDefEqProofs [hek, htk]
          refine ⟨by unfold maxLen; omega, ?_⟩
          refine wRun_draw2 false 1 4 rfl (by decide +kernel) ?_ ?_
          all_goals
            simp -implicitDefEqProofs [ordB, List.range, List.range.loop]
            refine callK_of (jx _ (pass s e) true (by omega) _ _ _ hx) ?_
            simp -implicitDefEqProofs [hek, htk]
            refine ⟨by unfold maxLen; omega, ?_⟩
            cases q1 : takeOk s a' f' [125] with
            | true =>
              refine callK_of (tk _ a' f' _ ha'.2 _ q1) ?_
              rw [q1, if_pos rfl] at hRi
              subst hRi
              obtain ⟨rfl, _, _⟩ := takeOk_lt q1
              simp -implicitDefEqProofs (maxDischargeDepth := 6) [tJson, encL, encT, encR, tJsonS, tStrS, AC.le_agg, kindP]
            | false =>
              refine callK_of (tk _ a' f' _ ha'.2 _ q1) ?_
              rw [q1, if_neg (by simp)] at hRi
              simp -implicitDefEqProofs
              cases q2 : takeOk s (pass s a') f' [44] with
              | true =>
                refine callK_of (tk _ (pass s a') f' _ hpa _ q2) ?_
                rw [q2, if_pos rfl] at hRi
                obtain ⟨rfl, _, hlt⟩ := takeOk_lt q2
                have hge2 := pass_ge s a'
                rw [pass_pass] at hlt
                obtain ⟨n, rfl⟩ : ∃ n', n = n' + 1 := ⟨n - 1, by omega⟩
                simp -implicitDefEqProofs [pass_pass]
                exact ⟨s.length - (pass s a' + 1) + 1, by simp; omega, _, St.le_of (by simp) (by simp [St.trunc, look, mapV, mapC, killP]) rfl (by simp [St.trunc, mapC, tJsonS, tStrS, encR, encL, encT]), (hI _ _).2 ⟨pass s a' + 1, [x], [tn], false, by omega, by intro _; simp; try omega, by simp [], rfl, fun _ => ⟨n, by omega, hRi⟩, by simp, rfl⟩⟩
              | false =>
                refine callK_of (tk _ (pass s a') f' _ hpa _ q2) ?_
                rw [q2, if_neg (by simp)] at hRi
                simp -implicitDefEqProofs [pass_pass]
                exact ⟨0, by simp, _, St.le_of (by simp) (by simp [St.trunc, look, mapV, mapC, killP]) rfl (by simp [St.trunc, mapC, tJsonS, tStrS, encR, encL, encT]), (hI _ _).2 ⟨pass s a', [x], [tn], true, by omega, by simp, by simp [], rfl, by simp, fun _ => hRi.symm, rfl⟩⟩
      · simp -implicitDefEqProofs [hne, encJsonS_len]
        cases q0 : takeOk s e fe [58] with
        | true =>
          refine callK_of (txc _ i hi) ?_
          rw [hTe, hAe, hFe]
          simp -implicitDefEqProofs
          refine callK_of (tk _ e fe _ hla _ q0) ?_
          obtain ⟨rfl, _, hlt0⟩ := takeOk_lt q0
          rw [q0] at hRi
          simp only [Bool.not_true, Bool.not_false, Bool.false_eq_true, if_true, if_false, Nat.add_zero] at hRi
          obtain ⟨⟨x, a', f'⟩, hx⟩ : ∃ z, prX pj s (pass s e + 1) false = z := ⟨_, rfl⟩
          have ha' := prX_bnd hpj (a := pass s e + 1) (f := false) (by omega)
          rw [hx] at hRi ha'
          have ha1 : pass s e + 1 ≤ a' := ha'.1
          have ha2 : a' ≤ s.length := ha'.2
          have hpa : pass s a' ≤ s.length := pass_le ha2
          have hek := encL_len (m := .of) (r := tJson x)
          rw [tJson_len] at hek
          have htk : (encL .of (tJson x)).take 4 = encL .of (tJson x) := List.take_of_length_le (by omega)
          simp -implicitDefEqProofs [hne, hnm, encJsonS_len, encStrS_len, hek, htk]
          refine ⟨by unfold maxLen; omega, by omega, ?_⟩
          refine wRun_draw2 false 1 4 rfl (by decide +kernel) ?_ ?_
          all_goals
            simp -implicitDefEqProofs [hne, hnm, encJsonS_len, encStrS_len, ordB, List.range, List.range.loop]
            refine callK_of (jx _ (pass s e + 1) false (by omega) _ _ _ hx) ?_
            simp -implicitDefEqProofs [hne, hnm, encJsonS_len, encStrS_len, hek, htk]
            refine ⟨by unfold maxLen; omega, by omega, ?_⟩
            cases q1 : takeOk s a' f' [125] with
            | true =>
              refine callK_of (tk _ a' f' _ ha'.2 _ q1) ?_
              rw [q1, if_pos rfl] at hRi
              subst hRi
              obtain ⟨rfl, _, _⟩ := takeOk_lt q1
              simp -implicitDefEqProofs (maxDischargeDepth := 6) [hnm, tJson, encL, encT, encR, tJsonS, tStrS, AC.le_agg, kindP, tJsonS_app, tStrS_app, encR_app]
            | false =>
              refine callK_of (tk _ a' f' _ ha'.2 _ q1) ?_
              rw [q1, if_neg (by simp)] at hRi
              simp -implicitDefEqProofs
              cases q2 : takeOk s (pass s a') f' [44] with
              | true =>
                refine callK_of (tk _ (pass s a') f' _ hpa _ q2) ?_
                rw [q2, if_pos rfl] at hRi
                obtain ⟨rfl, _, hlt⟩ := takeOk_lt q2
                have hge2 := pass_ge s a'
                rw [pass_pass] at hlt
                obtain ⟨n, rfl⟩ : ∃ n', n = n' + 1 := ⟨n - 1, by omega⟩
                simp -implicitDefEqProofs [pass_pass]
                exact ⟨s.length - (pass s a' + 1) + 1, by simp; omega, _, St.le_of (by simp) (by simp [St.trunc, look, mapV, mapC, killP]) rfl (by simp [St.trunc, mapC, tJsonS, tStrS, encR, encL, encT, tJsonS_app, tStrS_app, encR_app]), (hI _ _).2 ⟨pass s a' + 1, (items ++ [x]), (names ++ [tn]), false, by omega, by intro _; simp; try omega, by simp [hnm], rfl, fun _ => ⟨n, by omega, hRi⟩, by simp, rfl⟩⟩
              | false =>
                refine callK_of (tk _ (pass s a') f' _ hpa _ q2) ?_
                rw [q2, if_neg (by simp)] at hRi
                simp -implicitDefEqProofs [pass_pass]
                exact ⟨0, by simp, _, St.le_of (by simp) (by simp [St.trunc, look, mapV, mapC, killP]) rfl (by simp [St.trunc, mapC, tJsonS, tStrS, encR, encL, encT, tJsonS_app, tStrS_app, encR_app]), (hI _ _).2 ⟨pass s a', (items ++ [x]), (names ++ [tn]), true, by omega, by simp, by simp [hnm], rfl, by simp, fun _ => hRi.symm, rfl⟩⟩
        | false =>
          refine callK_of (txc _ i hi) ?_
          rw [hTe, hAe, hFe]
          simp -implicitDefEqProofs
          refine callK_of (tk _ e fe _ hla _ q0) ?_
          rw [q0] at hRi
          simp only [Bool.not_true, Bool.not_false, Bool.false_eq_true, if_true, if_false, Nat.add_zero] at hRi
          obtain ⟨⟨x, a', f'⟩, hx⟩ : ∃ z, prX pj s (pass s e) true = z := ⟨_, rfl⟩
          have ha' := prX_bnd hpj (a := pass s e) (f := true) (by omega)
          rw [hx] at hRi ha'
          have ha1 : pass s e ≤ a' := ha'.1
          have ha2 : a' ≤ s.length := ha'.2
          have hpa : pass s a' ≤ s.length := pass_le ha2
          have hek := encL_len (m := .of) (r := tJson x)
          rw [tJson_len] at hek
          have htk : (encL .of (tJson x)).take 4 = encL .of (tJson x) := List.take_of_length_le (by omega)
          simp -implicitDefEqProofs [hne, hnm, encJsonS_len, encStrS_len, hek, htk]
          refine ⟨by unfold maxLen; omega, by omega, ?_⟩
          refine wRun_draw2 false 1 4 rfl (by decide +kernel) ?_ ?_
          all_goals
            simp -implicitDefEqProofs [hne, hnm, encJsonS_len, encStrS_len, ordB, List.range, List.range.loop]
            refine callK_of (jx _ (pass s e) true (by omega) _ _ _ hx) ?_
            simp -implicitDefEqProofs [hne, hnm, encJsonS_len, encStrS_len, hek, htk]
            refine ⟨by unfold maxLen; omega, by omega, ?_⟩
            cases q1 : takeOk s a' f' [125] with
            | true =>
              refine callK_of (tk _ a' f' _ ha'.2 _ q1) ?_
              rw [q1, if_pos rfl] at hRi
              subst hRi
              obtain ⟨rfl, _, _⟩ := takeOk_lt q1
              simp -implicitDefEqProofs (maxDischargeDepth := 6) [hnm, tJson, encL, encT, encR, tJsonS, tStrS, AC.le_agg, kindP, tJsonS_app, tStrS_app, encR_app]
            | false =>
              refine callK_of (tk _ a' f' _ ha'.2 _ q1) ?_
              rw [q1, if_neg (by simp)] at hRi
              simp -implicitDefEqProofs
              cases q2 : takeOk s (pass s a') f' [44] with
              | true =>
                refine callK_of (tk _ (pass s a') f' _ hpa _ q2) ?_
                rw [q2, if_pos rfl] at hRi
                obtain ⟨rfl, _, hlt⟩ := takeOk_lt q2
                have hge2 := pass_ge s a'
                rw [pass_pass] at hlt
                obtain ⟨n, rfl⟩ : ∃ n', n = n' + 1 := ⟨n - 1, by omega⟩
                simp -implicitDefEqProofs [pass_pass]
                exact ⟨s.length - (pass s a' + 1) + 1, by simp; omega, _, St.le_of (by simp) (by simp [St.trunc, look, mapV, mapC, killP]) rfl (by simp [St.trunc, mapC, tJsonS, tStrS, encR, encL, encT, tJsonS_app, tStrS_app, encR_app]), (hI _ _).2 ⟨pass s a' + 1, (items ++ [x]), (names ++ [tn]), false, by omega, by intro _; simp; try omega, by simp [hnm], rfl, fun _ => ⟨n, by omega, hRi⟩, by simp, rfl⟩⟩
              | false =>
                refine callK_of (tk _ (pass s a') f' _ hpa _ q2) ?_
                rw [q2, if_neg (by simp)] at hRi
                simp -implicitDefEqProofs [pass_pass]
                exact ⟨0, by simp, _, St.le_of (by simp) (by simp [St.trunc, look, mapV, mapC, killP]) rfl (by simp [St.trunc, mapC, tJsonS, tStrS, encR, encL, encT, tJsonS_app, tStrS_app, encR_app]), (hI _ _).2 ⟨pass s a', (items ++ [x]), (names ++ [tn]), true, by omega, by simp, by simp [hnm], rfl, by simp, fun _ => hRi.symm, rfl⟩⟩
end Go.Proofs.YthagllbnkbahnaaDoor.Abs
