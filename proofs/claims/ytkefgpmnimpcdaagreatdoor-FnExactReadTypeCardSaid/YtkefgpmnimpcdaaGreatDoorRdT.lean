/- Types, read off tokens: contracts of both sides. No condition. -/
import Derived.Test.YtkefgpmnimpcdaaGreatDoorRdB
import Derived.Test.YtkefgpmnimpcdaaGreatDoorLays2
set_option linter.unusedVariables false
set_option linter.unusedSimpArgs false
namespace Go.Proofs.YtkefgpmnimpcdaaGreatDoor.Abs
open Go Go.RowKit
set_option maxHeartbeats 4000000
set_option maxRecDepth 100000
theorem c_HasSuffix (s p : Bs) (K) : Ct Tryz.prog 164 [.str s, .str p] K (.bool (p.isSuffixOf s)) K := by
  refine ct_lib ⟨_, Tryz.func164, rfl, by kernel_rfl⟩ rfl ?_ K
  intro w Pr vals ht h0
  obtain ⟨b, _, rfl, rfl, hl, h1⟩ := h0.str_inv
  obtain ⟨c, _, rfl, rfl, hl2, h2⟩ := h1.str_inv
  obtain ⟨rfl, _⟩ := h2.nil_inv
  refine (Any.strings_HasSuffix Tryz.lays100 _ _ w (by rw [str_size]; unfold maxLen at hl; omega)).mono ?_
  rintro e w' ⟨rfl, rfl⟩
  exact ⟨_, rfl, fun _ _ _ => .bool, Below.refl _ _⟩
def sufB (w : Bs) : Bool := ([33] : Bs).isSuffixOf w
theorem sufB_snoc (l : Bs) (b : UInt8) : sufB (l ++ [b]) = decide (b = 33) := by
  unfold sufB
  rw [Bool.eq_iff_iff, List.isSuffixOf_iff_suffix, decide_eq_true_iff]
  constructor
  · rintro ⟨t, ht⟩
    have := List.append_inj_right' ht rfl
    simpa using this.symm
  · rintro rfl; exact ⟨l, rfl⟩
theorem sufB_nil : sufB [] = false := rfl
def openL : Nat → Rd → Nat → Bool × Rd × Nat
  | 0, r, k => (false, r, k)
  | n + 1, r, k => if isS r [91] then (if k = 8 then (true, failR r 8, k) else openL n (nextR r) (k + 1)) else (false, r, k)
def typL : Nat → Rd → Nat → Bs → Bs → (Bs × Bs) × Rd
  | 0, r, _, nm, ws => ((nm, ws), r)
  | n + 1, r, k, nm, ws => if ¬ r.code = 0 then ((nm, ws), r) else
    if isS r [33] && !sufB ws then (if ws.length = 8 then (([], []), failR r 8) else typL n (nextR r) k nm (ws ++ [33]))
    else if k = 0 then ((nm, ws), r)
    else if isS r [93] then (if ws.length = 8 then (([], []), failR r 8) else typL n (nextR r) (k - 1) nm (ws ++ [93]))
    else (([], []), failR r 7)
/-- A type that is read. -/
def typR (r : Rd) : (Bs × Bs) × Rd := match openL (r.t.length + 1) r 0 with
  | (true, r1, _) => (([], []), r1)
  | (false, r1, k) => typL (r.t.length + 1) (nameR r1).2 k (nameR r1).1 []
/-- The same as the reference goes about it: what it returns behind a fault is another type. -/
def typLS : Nat → Rd → Nat → Bs → Bs → (Bs × Bs) × Rd
  | 0, r, _, nm, ws => ((nm, ws), r)
  | n + 1, r, k, nm, ws => if ¬ r.code = 0 then ((nm, ws), r) else
    if isS r [33] && !sufB ws then (if 8 ≤ ws.length then ((nm, ws), failR r 8) else typLS n (nextR r) k nm (ws ++ [33]))
    else if k = 0 then ((nm, ws), r)
    else if isS r [93] then (if 8 ≤ ws.length then ((nm, ws), failR r 8) else typLS n (nextR r) (k - 1) nm (ws ++ [93]))
    else ((nm, ws), failR r 7)
def typRS (r : Rd) : (Bs × Bs) × Rd := match openL (r.t.length + 1) r 0 with
  | (true, r1, _) => (([], []), r1)
  | (false, r1, k) => typLS (r.t.length + 1) (nameR r1).2 k (nameR r1).1 []
theorem typ_same : ∀ (n : Nat) (r : Rd) (k : Nat) (nm ws : Bs), ws.length ≤ 8 → (typLS n r k nm ws).2 = (typL n r k nm ws).2 ∧ ((typL n r k nm ws).2.code = 0 → typLS n r k nm ws = typL n r k nm ws) := by
  intro n; induction n with
  | zero => intro r k nm ws _; exact ⟨rfl, fun _ => rfl⟩
  | succ n ih =>
    intro r k nm ws hw
    rw [typLS, typL]
    have f8 := failR_code (r := r) (c := 8) (by decide)
    have f7 := failR_code (r := r) (c := 7) (by decide)
    by_cases hc : r.code = 0
    · simp only [hc, not_true_eq_false, if_false]
      cases ha : (isS r [33] && !sufB ws) with
      | true =>
        simp only [if_true]
        by_cases h8 : ws.length = 8
        · rw [if_pos h8, if_pos (by omega)]; exact ⟨rfl, fun h => absurd h f8⟩
        · rw [if_neg h8, if_neg (by omega)]; exact ih _ _ _ _ (by simp; omega)
      | false =>
        simp only [Bool.false_eq_true, if_false]
        by_cases hk : k = 0
        · simp only [hk, if_true]; exact ⟨trivial, fun _ => trivial⟩
        · simp only [hk, if_false]
          cases hb : isS r [93] with
          | true =>
            simp only [if_true]
            by_cases h8 : ws.length = 8
            · rw [if_pos h8, if_pos (by omega)]; exact ⟨rfl, fun h => absurd h f8⟩
            · rw [if_neg h8, if_neg (by omega)]; exact ih _ _ _ _ (by simp; omega)
          | false =>
            simp only [Bool.false_eq_true, if_false]
            exact ⟨trivial, fun h => absurd h f7⟩
    · simp only [hc, not_false_eq_true, if_true]; exact ⟨trivial, fun _ => trivial⟩
theorem typR_same (r : Rd) : (typRS r).2 = (typR r).2 ∧ ((typR r).2.code = 0 → typRS r = typR r) := by
  unfold typRS typR
  split
  · exact ⟨rfl, fun _ => rfl⟩
  · exact typ_same _ _ _ _ _ (by simp)
variable (A : List (List (List AC))) (X : List (List AC)) (Y : List (List AC)) (C : List (List (List AC)))
theorem nextR_ok {r : Rd} (h : okR r) (hl : r.at_ < r.t.length) : okR (nextR r) := by unfold okR nextR at *; simp only; omega
theorem nameR_ok {r : Rd} (h : okR r) : okR (nameR r).2 ∧ (nameR r).2.t = r.t := by
  unfold nameR
  split
  · next hn => exact ⟨nextR_ok h (isNmR_lt hn).2, rfl⟩
  · exact ⟨failR_ok h, failR_t.1⟩
theorem c_typ (r : Rd) (hr : okR r) : Ct Tryz.prog 61 [.ptr A.length X.length 0] (KD A X r Y C) (.agg [.str (typR r).1.1, .str (typR r).1.2]) (KD A X (typR r).2 Y C) := by
  generalize hR : typR r = R
  unfold typR at hR
  refine ct_fn { n0 := 6, ex := [], tk := [7, 11, 12, 23, 24, 26, 28, 31, 35, 43, 51, 52, 58, 59, 72] } Tryz.func61 rfl (by kernel_rfl) (by kernel_rfl) rfl ?_
  simp -implicitDefEqProofs [Tryz.f61]
  obtain ⟨I, hI⟩ : ∃ I : Nat → St → Prop, ∀ m st, I m st ↔ ∃ (r1 : Rd) (k n : Nat), okR r1 ∧ r1.t = r.t ∧ k ≤ 8 ∧ m = r1.t.length - r1.at_ ∧ r1.t.length - r1.at_ ≤ n ∧ openL (n + 1) r1 k = openL (r.t.length + 1) r 0 ∧
    st = { env := [(0, .ptr (A.length + 1) X.length 0), (2, .ptr 0 0 0), (3, .int .i64 k)], loc := [], K := [[.str [], .str []]] :: KD A X r1 Y C } := ⟨_, fun _ _ => Iff.rfl⟩
  refine wC_loopI I (r.t.length - r.at_) ((hI _ _).2 ⟨r, 0, r.t.length, hr, rfl, by omega, rfl, by omega, rfl, rfl⟩) (St.le_of (by simp) (by simp) rfl (by simp)) ?_
  intro m st hst
  obtain ⟨r1, k, n, ho, hrt, hk, rfl, hn, hp, rfl⟩ := (hI _ _).1 hst
  clear hst
  rw [openL] at hp
  simp -implicitDefEqProofs
  refine callK_of (c_isSign ([[.str [], .str []]] :: A) X r1 Y C [91] ho) ?_
  cases hs : isS r1 [91] with
  | true =>
    obtain ⟨hc, hlt⟩ := isS_lt hs
    rw [hs, if_pos rfl] at hp
    have w1 : IntKind.i64.wrap ((r1.at_ : Int) + 1) = (r1.at_ + 1 : Nat) := by rw [wrap64 (by have := ho.2; omega) (by have := ho.2; omega)]; rfl
    have wk : IntKind.i64.wrap ((k : Int) + 1) = (k + 1 : Nat) := by rw [wrap64 (by omega) (by omega)]; rfl
    by_cases h8 : k = 8
    · rw [if_pos h8] at hp
      rw [← hp] at hR
      subst hR h8
      simp -implicitDefEqProofs
      refine callK_of (c_fail ([[.str [], .str []]] :: A) X r1 Y C 8 ho) ?_
      simp -implicitDefEqProofs (maxDischargeDepth := 6) [AC.le_agg]
    · rw [if_neg h8] at hp
      have h8' : ¬ (k : Int) = 8 := by omega
      obtain ⟨n, rfl⟩ : ∃ n', n = n' + 1 := ⟨n - 1, by omega⟩
      simp -implicitDefEqProofs [h8, h8', w1, wk]
      exact ⟨r1.t.length - (r1.at_ + 1), by omega, _, St.le_of (by simp) (by simp [St.trunc, look, mapV, mapC, killP]) rfl (by simp [St.trunc, mapC]), (hI _ _).2 ⟨nextR r1, k + 1, n, nextR_ok ho hlt, hrt, by omega, rfl, by unfold nextR; simp only; omega, hp, rfl⟩⟩
  | false =>
    rw [hs, if_neg (by simp)] at hp
    rw [← hp] at hR
    simp -implicitDefEqProofs
    clear hI hp
    clear I
    refine callK_of (c_name ([[.str [], .str []]] :: A) X r1 Y C ho) ?_
    obtain ⟨no, nt⟩ := nameR_ok ho
    simp only at hR
    rw [← hrt, ← nt] at hR
    generalize nameR r1 = q at *
    obtain ⟨nm, r2⟩ := q
    simp only at hR no nt ⊢
    simp -implicitDefEqProofs
    obtain ⟨J, hJ⟩ : ∃ J : Nat → St → Prop, ∀ m st, J m st ↔ ∃ (r3 : Rd) (k n : Nat) (ws : Bs), okR r3 ∧ k ≤ 8 ∧ ws.length ≤ 8 ∧ m = r3.t.length - r3.at_ ∧ r3.t.length - r3.at_ ≤ n ∧ typL (n + 1) r3 k nm ws = R ∧
      st = { env := [(0, .ptr (A.length + 1) X.length 0), (2, .ptr 0 0 0), (3, .int .i64 k), (4, .ptr 0 1 0)], loc := [], K := [[.str [], .str []], [.str nm, .str ws]] :: KD A X r3 Y C } := ⟨_, fun _ _ => Iff.rfl⟩
    refine wC_loopI J (r2.t.length - r2.at_) ((hJ _ _).2 ⟨r2, k, r2.t.length, [], no, hk, by simp, rfl, by omega, hR, rfl⟩) (St.le_of (by simp) (by simp) rfl (by simp)) ?_
    clear hk hR no nt hs hn hrt ho
    intro m st hst
    obtain ⟨r3, k, n, ws, ho, hk, hw8, rfl, hn, hp, rfl⟩ := (hJ _ _).1 hst
    clear hst
    rw [typL] at hp

    simp -implicitDefEqProofs
    refine callK_of (c_bad ([[.str [], .str []], [.str nm, .str ws]] :: A) X r3 Y C) ?_
    by_cases hc : r3.code = 0
    · rw [if_neg (by simpa using hc)] at hp
      have w1 : IntKind.i64.wrap ((r3.at_ : Int) + 1) = (r3.at_ + 1 : Nat) := by rw [wrap64 (by have := ho.2; omega) (by have := ho.2; omega)]; rfl
      simp -implicitDefEqProofs [hc]
      refine callK_of (c_isSign ([[.str [], .str []], [.str nm, .str ws]] :: A) X r3 Y C [33] ho) ?_
      simp -implicitDefEqProofs
      refine callK_still (fun _ => c_HasSuffix ws [33] _) ?_
      rw [show ([33] : Bs).isSuffixOf ws = sufB ws from rfl]
      have wkm : IntKind.i64.wrap ((k : Int) - 1) = (k - 1 : Int) := wrap64 (by omega) (by omega)
      by_cases hA : isS r3 [33] = true ∧ sufB ws = false
      · obtain ⟨h33, hsf⟩ := hA
        obtain ⟨_, hlt⟩ := isS_lt h33
        rw [h33, hsf, if_pos (by simp)] at hp
        obtain ⟨n, rfl⟩ : ∃ n', n = n' + 1 := ⟨n - 1, by omega⟩
        by_cases h8 : ws.length = 8
        · rw [if_pos h8] at hp
          subst hp
          simp -implicitDefEqProofs [h33, hsf, h8]
          intro _
          refine callK_of (c_fail ([[.str [], .str []], [.str nm, .str ws]] :: A) X r3 Y C 8 ho) ?_
          simp -implicitDefEqProofs (maxDischargeDepth := 6) [AC.le_agg]
        · rw [if_neg h8] at hp
          have h8' : ¬ (ws.length : Int) = 8 := by omega
          simp -implicitDefEqProofs [h33, hsf, h8, h8', w1]
          intro _
          exact ⟨by unfold maxLen; omega, r3.t.length - (r3.at_ + 1), by omega, _, St.le_of (by simp) (by simp [St.trunc, look, mapV, mapC, killP]) rfl (by simp [St.trunc, mapC]), (hJ _ _).2 ⟨nextR r3, k, n, ws ++ [33], nextR_ok ho hlt, by omega, by simp; omega, rfl, by unfold nextR; simp only; omega, hp, rfl⟩⟩
      · have hna : (isS r3 [33] && !sufB ws) = false := by
          cases h1 : isS r3 [33] with
          | false => rfl
          | true =>
            cases h2 : sufB ws with
            | true => rfl
            | false => exact absurd ⟨h1, h2⟩ hA
        rw [hna, if_neg (by simp)] at hp
        have hcs : isS r3 [33] = false ∨ (isS r3 [33] = true ∧ sufB ws = true) := by
          cases h1 : isS r3 [33] with
          | false => exact .inl rfl
          | true =>
            cases h2 : sufB ws with
            | true => exact .inr ⟨rfl, rfl⟩
            | false => exact absurd ⟨h1, h2⟩ hA
        by_cases hk0 : k = 0
        · rw [if_pos hk0] at hp
          subst hp hk0
          rcases hcs with h33 | ⟨h33, hsf⟩
          case' inl => simp -implicitDefEqProofs [h33]
          case' inr => simp -implicitDefEqProofs [h33, hsf]
          all_goals
            refine callK_still (r := .bool false) (fun h => absurd h (by simp)) ?_
            simp -implicitDefEqProofs (maxDischargeDepth := 6) [AC.le_agg]
        · rw [if_neg hk0] at hp
          have hkp : (0 : Int) < k := by omega
          have hkp' : 0 < k := by omega
          rcases hcs with h33 | ⟨h33, hsf⟩
          case' inl => simp -implicitDefEqProofs [h33, hkp, hkp']
          case' inr => simp -implicitDefEqProofs [h33, hsf, hkp, hkp']
          all_goals
            refine callK_still (fun _ => c_isSign ([[.str [], .str []], [.str nm, .str ws]] :: A) X r3 Y C [93] ho) ?_
            cases h93 : isS r3 [93] with
            | true =>
              obtain ⟨_, hlt⟩ := isS_lt h93
              rw [h93, if_pos rfl] at hp
              obtain ⟨n, rfl⟩ : ∃ n', n = n' + 1 := ⟨n - 1, by omega⟩
              have hk1 : IntKind.i64.wrap ((k : Int) - 1) = (k - 1 : Nat) := by rw [wrap64 (by omega) (by omega)]; omega
              by_cases h8 : ws.length = 8
              · rw [if_pos h8] at hp
                subst hp
                simp -implicitDefEqProofs [hkp, hkp', h8, hk1]
                intro _
                refine callK_of (c_fail ([[.str [], .str []], [.str nm, .str ws]] :: A) X r3 Y C 8 ho) ?_
                simp -implicitDefEqProofs (maxDischargeDepth := 6) [AC.le_agg]
              · rw [if_neg h8] at hp
                have h8' : ¬ (ws.length : Int) = 8 := by omega
                simp -implicitDefEqProofs [hkp, hkp', h8, h8', hk1, w1]
                intro _
                exact ⟨by unfold maxLen; omega, r3.t.length - (r3.at_ + 1), by omega, _, St.le_of (by simp) (by simp [St.trunc, look, mapV, mapC, killP]) rfl (by simp [St.trunc, mapC]), (hJ _ _).2 ⟨nextR r3, k - 1, n, ws ++ [93], nextR_ok ho hlt, by omega, by simp; omega, rfl, by unfold nextR; simp only; omega, hp, rfl⟩⟩
            | false =>
              rw [h93, if_neg (by simp)] at hp
              subst hp
              simp -implicitDefEqProofs [hkp, hkp']
              refine callK_of (c_fail ([[.str [], .str []], [.str nm, .str ws]] :: A) X r3 Y C 7 ho) ?_
              simp -implicitDefEqProofs (maxDischargeDepth := 6) [AC.le_agg]
    · rw [if_pos hc] at hp
      subst hp
      simp -implicitDefEqProofs (maxDischargeDepth := 6) [hc, AC.le_agg]
theorem c_l09Wrap (r : Rd) (nm ws w : Bs) (hr : okR r) (hw : ws.length ≤ 100) (hww : w.length ≤ 100) : Ct Tryz.prog 160 [.ptr A.length X.length 0, .agg [.str nm, .str ws], .str w] (KD A X r Y C)
    (.agg [.str nm, .str (if 8 ≤ ws.length then ws else ws ++ w)]) (KD A X (if 8 ≤ ws.length then failR r 8 else nextR r) Y C) := by
  have w1 : IntKind.i64.wrap ((r.at_ : Int) + 1) = (r.at_ + 1 : Nat) := by rw [wrap64 (by have := hr.2; omega) (by have := hr.2; omega)]; rfl
  refine ct_fn { n0 := 7, ex := [], tk := [12, 13, 26] } Tryz.func160 rfl (by kernel_rfl) (by kernel_rfl) rfl ?_
  simp -implicitDefEqProofs [Tryz.f160]
  intro _
  by_cases h8 : 8 ≤ ws.length
  · have h8' : (8 : Int) ≤ ws.length := by omega
    have h8n : ¬ (ws.length : Int) < 8 := by omega
    rw [if_pos h8, if_pos h8]
    simp -implicitDefEqProofs [h8, h8', h8n]
    refine callK_of (c_l08Bad ([[.str nm, .str ws], [.str [], .str []]] :: A) X r Y C 8 hr) ?_
    simp -implicitDefEqProofs (maxDischargeDepth := 6) [AC.le_agg]
  · have h8' : ¬ (8 : Int) ≤ ws.length := by omega
    have h8n : (ws.length : Int) < 8 := by omega
    rw [if_neg h8, if_neg h8]
    simp -implicitDefEqProofs (maxDischargeDepth := 6) [h8, h8', h8n, w1, AC.le_agg]
    unfold maxLen; omega
theorem c_l09Type (r : Rd) (hr : okR r) : Ct Tryz.prog 58 [.ptr A.length X.length 0] (KD A X r Y C) (.agg [.str (typRS r).1.1, .str (typRS r).1.2]) (KD A X (typRS r).2 Y C) := by
  generalize hR : typRS r = R
  unfold typRS at hR
  refine ct_fn { n0 := 5, ex := [], tk := [5, 7, 11, 12, 23, 32, 50, 53, 55, 58, 59, 62, 65] } Tryz.func58 rfl (by kernel_rfl) (by kernel_rfl) rfl ?_
  simp -implicitDefEqProofs [Tryz.f58]
  obtain ⟨I, hI⟩ : ∃ I : Nat → St → Prop, ∀ m st, I m st ↔ ∃ (r1 : Rd) (k n : Nat), okR r1 ∧ r1.t = r.t ∧ k ≤ 8 ∧ m = r1.t.length - r1.at_ ∧ r1.t.length - r1.at_ ≤ n ∧ openL (n + 1) r1 k = openL (r.t.length + 1) r 0 ∧
    st = { env := [(0, .ptr (A.length + 1) X.length 0), (2, .ptr 0 0 0), (3, .ptr 0 1 0), (4, .int .i64 k)], loc := [], K := [[.str [], .str []], [.str [], .str []]] :: KD A X r1 Y C } := ⟨_, fun _ _ => Iff.rfl⟩
  refine wC_loopI I (r.t.length - r.at_) ((hI _ _).2 ⟨r, 0, r.t.length, hr, rfl, by omega, rfl, by omega, rfl, rfl⟩) (St.le_of (by simp) (by simp) rfl (by simp)) ?_
  intro m st hst
  obtain ⟨r1, k, n, ho, hrt, hk, rfl, hn, hp, rfl⟩ := (hI _ _).1 hst
  clear hst
  rw [openL] at hp
  simp -implicitDefEqProofs
  refine callK_of (c_l08Is ([[.str [], .str []], [.str [], .str []]] :: A) X r1 Y C [91] ho) ?_
  cases hs : isS r1 [91] with
  | true =>
    obtain ⟨hc, hlt⟩ := isS_lt hs
    rw [hs, if_pos rfl] at hp
    have w1 : IntKind.i64.wrap ((r1.at_ : Int) + 1) = (r1.at_ + 1 : Nat) := by rw [wrap64 (by have := ho.2; omega) (by have := ho.2; omega)]; rfl
    have wk : IntKind.i64.wrap ((k : Int) + 1) = (k + 1 : Nat) := by rw [wrap64 (by omega) (by omega)]; rfl
    by_cases h8 : k = 8
    · rw [if_pos h8] at hp
      rw [← hp] at hR
      subst hR h8
      simp -implicitDefEqProofs
      refine callK_of (c_l08Bad ([[.str [], .str []], [.str [], .str []]] :: A) X r1 Y C 8 ho) ?_
      simp -implicitDefEqProofs (maxDischargeDepth := 6) [AC.le_agg]
    · rw [if_neg h8] at hp
      have h8' : ¬ (k : Int) = 8 := by omega
      obtain ⟨n, rfl⟩ : ∃ n', n = n' + 1 := ⟨n - 1, by omega⟩
      simp -implicitDefEqProofs [h8, h8', w1, wk]
      exact ⟨r1.t.length - (r1.at_ + 1), by omega, _, St.le_of (by simp) (by simp [St.trunc, look, mapV, mapC, killP]) rfl (by simp [St.trunc, mapC]), (hI _ _).2 ⟨nextR r1, k + 1, n, nextR_ok ho hlt, hrt, by omega, rfl, by unfold nextR; simp only; omega, hp, rfl⟩⟩
  | false =>
    rw [hs, if_neg (by simp)] at hp
    rw [← hp] at hR
    simp -implicitDefEqProofs
    clear hI hp
    clear I
    refine callK_of (c_l08Name ([[.str [], .str []], [.str [], .str []]] :: A) X r1 Y C ho) ?_
    obtain ⟨no, nt⟩ := nameR_ok ho
    simp only at hR
    rw [← hrt, ← nt] at hR
    generalize nameR r1 = q at *
    obtain ⟨nm, r2⟩ := q
    simp only at hR no nt ⊢
    simp -implicitDefEqProofs
    obtain ⟨J, hJ⟩ : ∃ J : Nat → St → Prop, ∀ m st, J m st ↔ ∃ (r3 : Rd) (k n : Nat) (ws : Bs), okR r3 ∧ k ≤ 8 ∧ ws.length ≤ 8 ∧ (∀ b ∈ ws, b = 33 ∨ b = 93) ∧ m = (if r3.code = 0 then r3.t.length - r3.at_ + 1 else 0) ∧ r3.t.length - r3.at_ ≤ n ∧ typLS (n + 1) r3 k nm ws = R ∧
      st = { env := [(0, .ptr (A.length + 1) X.length 0), (2, .ptr 0 0 0), (3, .ptr 0 1 0), (4, .int .i64 k)], loc := [], K := [[.str [], .str []], [.str nm, .str ws]] :: KD A X r3 Y C } := ⟨_, fun _ _ => Iff.rfl⟩
    refine wC_loopI J _ ((hJ _ _).2 ⟨r2, k, r2.t.length, [], no, hk, by simp, by simp, rfl, by omega, hR, rfl⟩) (St.le_of (by simp) (by simp) rfl (by simp)) ?_
    clear hk hR no nt hs hn hrt ho
    intro m st hst
    obtain ⟨r3, k, n, ws, ho, hk, hw8, hwb, rfl, hn, hp, rfl⟩ := (hJ _ _).1 hst
    clear hst
    rw [typLS] at hp
    simp -implicitDefEqProofs
    by_cases hc : r3.code = 0
    · rw [if_neg (by simpa using hc)] at hp
      rw [if_pos hc]
      simp -implicitDefEqProofs [hc]
      refine callK_of (c_l08Is ([[.str [], .str []], [.str nm, .str ws]] :: A) X r3 Y C [33] ho) ?_
      have wkS : IntKind.i64.wrap ((k : Int) - 1) = (k - 1 : Int) := wrap64 (by omega) (by omega)
      cases h33 : isS r3 [33] with
      | true =>
        obtain ⟨_, hlt⟩ := isS_lt h33
        rw [h33] at hp
        rcases List.eq_nil_or_concat ws with rfl | ⟨l, b, rfl⟩
        · rw [sufB_nil, if_pos (by simp)] at hp
          simp -implicitDefEqProofs
          by_cases h8 : 8 ≤ ([] : Bs).length
          · rw [if_pos h8] at hp
            have hW := c_l09Wrap ([[.str [], .str []], [.str nm, .str ([] : Bs)]] :: A) X Y C r3 nm ([] : Bs) [33] ho (by omega) (by simp)
            rw [if_pos h8, if_pos h8] at hW
            refine callK_of hW ?_
            have f8 := failR_code (r := r3) (c := 8) (by decide)
            simp -implicitDefEqProofs [wkS]
            exact ⟨0, by omega, _, St.le_of (by simp) (by simp [St.trunc, look, mapV, mapC, killP]) rfl (by simp [St.trunc, mapC]), (hJ _ _).2 ⟨failR r3 8, k, n, ([] : Bs), failR_ok ho, by omega, hw8, hwb, by rw [if_neg f8], by rw [failR_t.1, failR_t.2.1]; omega, by rw [typLS, if_pos f8]; exact hp, rfl⟩⟩
          · rw [if_neg h8] at hp
            have hW := c_l09Wrap ([[.str [], .str []], [.str nm, .str ([] : Bs)]] :: A) X Y C r3 nm ([] : Bs) [33] ho (by omega) (by simp)
            rw [if_neg h8, if_neg h8] at hW
            refine callK_of hW ?_
            obtain ⟨n, rfl⟩ : ∃ n', n = n' + 1 := ⟨n - 1, by omega⟩
            simp -implicitDefEqProofs [wkS]
            have hcn : (nextR r3).code = 0 := hc
            exact ⟨r3.t.length - (r3.at_ + 1) + 1, by omega, _, St.le_of (by simp) (by simp [St.trunc, look, mapV, mapC, killP]) rfl (by simp [St.trunc, mapC]), (hJ _ _).2 ⟨nextR r3, k, n, ([] : Bs) ++ [33], nextR_ok ho hlt, by omega, by have h9 := h8; simp only [List.length_append, List.length_cons, List.length_nil] at h9 ⊢; omega, fun c hc' => by
              rcases List.mem_append.1 hc' with h | h
              · exact hwb c h
              · simp at h; simp [h], by rw [if_pos hcn]; rfl, by unfold nextR; simp only; omega, hp, rfl⟩⟩
        · rw [List.concat_eq_append] at *
          rw [sufB_snoc] at hp
          have hxb : (l ++ [b])[l.length]? = some b := by simp
          have wl : IntKind.i64.wrap (l.length : Int) = (l.length : Nat) := wrap64 (by omega) (by simp at hw8; omega)
          have b33 : (b.toNat : Int) = 33 ↔ b = 33 := u8_eq (c := 33)
          have hl8 : l.length + 1 ≤ 8 := by simpa using hw8
          by_cases hb : b = 33
          · rw [decide_eq_true hb, if_neg (by simp)] at hp
            simp -implicitDefEqProofs [wl, hxb, b33, hb]
            rw [hb] at hp hwb hw8
            refine fun _ => ⟨by omega, ?_⟩
            by_cases hk0 : k = 0
            · rw [if_pos hk0] at hp
              subst hp
              exact ⟨fun _ => ⟨rfl, .refl⟩, fun h => absurd hk0 h⟩
            · rw [if_neg hk0] at hp
              refine ⟨fun h => absurd h hk0, fun _ => ?_⟩
              refine callK_of (c_l08Is ([[.str [], .str []], [.str nm, .str (l ++ [33])]] :: A) X r3 Y C [93] ho) ?_
              have wk1 : IntKind.i64.wrap ((k : Int) - 1) = (k - 1 : Nat) := by rw [wrap64 (by omega) (by omega)]; omega
              cases h93 : isS r3 [93] with
              | true =>
                obtain ⟨_, hlt⟩ := isS_lt h93
                rw [h93, if_pos rfl] at hp
                simp -implicitDefEqProofs
                by_cases h8 : 8 ≤ (l ++ [33]).length
                · rw [if_pos h8] at hp
                  have hW := c_l09Wrap ([[.str [], .str []], [.str nm, .str (l ++ [33])]] :: A) X Y C r3 nm (l ++ [33]) [93] ho (by omega) (by simp)
                  rw [if_pos h8, if_pos h8] at hW
                  refine callK_of hW ?_
                  have f8 := failR_code (r := r3) (c := 8) (by decide)
                  simp -implicitDefEqProofs [wk1]
                  exact ⟨0, by omega, _, St.le_of (by simp) (by simp [St.trunc, look, mapV, mapC, killP]) rfl (by simp [St.trunc, mapC]), (hJ _ _).2 ⟨failR r3 8, k - 1, n, (l ++ [33]), failR_ok ho, by omega, hw8, hwb, by rw [if_neg f8], by rw [failR_t.1, failR_t.2.1]; omega, by rw [typLS, if_pos f8]; exact hp, rfl⟩⟩
                · rw [if_neg h8] at hp
                  have hW := c_l09Wrap ([[.str [], .str []], [.str nm, .str (l ++ [33])]] :: A) X Y C r3 nm (l ++ [33]) [93] ho (by omega) (by simp)
                  rw [if_neg h8, if_neg h8] at hW
                  refine callK_of hW ?_
                  obtain ⟨n, rfl⟩ : ∃ n', n = n' + 1 := ⟨n - 1, by omega⟩
                  simp -implicitDefEqProofs [wk1]
                  have hcn : (nextR r3).code = 0 := hc
                  exact ⟨r3.t.length - (r3.at_ + 1) + 1, by omega, _, St.le_of (by simp) (by simp [St.trunc, look, mapV, mapC, killP]) rfl (by simp [St.trunc, mapC]), (hJ _ _).2 ⟨nextR r3, k - 1, n, (l ++ [33]) ++ [93], nextR_ok ho hlt, by omega, by have h9 := h8; simp only [List.length_append, List.length_cons, List.length_nil] at h9 ⊢; omega, fun c hc' => by
                    rcases List.mem_append.1 hc' with h | h
                    · exact hwb c h
                    · simp at h; simp [h], by rw [if_pos hcn]; rfl, by unfold nextR; simp only; omega, hp, rfl⟩⟩
              | false =>
                rw [h93, if_neg (by simp)] at hp
                subst hp
                simp -implicitDefEqProofs
                refine callK_of (c_l08Bad ([[.str [], .str []], [.str nm, .str (l ++ [33])]] :: A) X r3 Y C 7 ho) ?_
                simp -implicitDefEqProofs (maxDischargeDepth := 6) [AC.le_agg]
          · rw [decide_eq_false hb, if_pos (by simp)] at hp
            simp -implicitDefEqProofs [wl, hxb, b33, hb]
            refine fun _ => ⟨by omega, ?_⟩
            by_cases h8 : 8 ≤ (l ++ [b]).length
            · rw [if_pos h8] at hp
              have hW := c_l09Wrap ([[.str [], .str []], [.str nm, .str (l ++ [b])]] :: A) X Y C r3 nm (l ++ [b]) [33] ho (by omega) (by simp)
              rw [if_pos h8, if_pos h8] at hW
              refine callK_of hW ?_
              have f8 := failR_code (r := r3) (c := 8) (by decide)
              simp -implicitDefEqProofs [wkS]
              exact ⟨0, by omega, _, St.le_of (by simp) (by simp [St.trunc, look, mapV, mapC, killP]) rfl (by simp [St.trunc, mapC]), (hJ _ _).2 ⟨failR r3 8, k, n, (l ++ [b]), failR_ok ho, by omega, hw8, hwb, by rw [if_neg f8], by rw [failR_t.1, failR_t.2.1]; omega, by rw [typLS, if_pos f8]; exact hp, rfl⟩⟩
            · rw [if_neg h8] at hp
              have hW := c_l09Wrap ([[.str [], .str []], [.str nm, .str (l ++ [b])]] :: A) X Y C r3 nm (l ++ [b]) [33] ho (by omega) (by simp)
              rw [if_neg h8, if_neg h8] at hW
              refine callK_of hW ?_
              obtain ⟨n, rfl⟩ : ∃ n', n = n' + 1 := ⟨n - 1, by omega⟩
              simp -implicitDefEqProofs [wkS]
              have hcn : (nextR r3).code = 0 := hc
              exact ⟨r3.t.length - (r3.at_ + 1) + 1, by omega, _, St.le_of (by simp) (by simp [St.trunc, look, mapV, mapC, killP]) rfl (by simp [St.trunc, mapC]), (hJ _ _).2 ⟨nextR r3, k, n, (l ++ [b]) ++ [33], nextR_ok ho hlt, by omega, by have h9 := h8; simp only [List.length_append, List.length_cons, List.length_nil] at h9 ⊢; omega, fun c hc' => by
                rcases List.mem_append.1 hc' with h | h
                · exact hwb c h
                · simp at h; simp [h], by rw [if_pos hcn]; rfl, by unfold nextR; simp only; omega, hp, rfl⟩⟩
      | false =>
        rw [h33, if_neg (by simp)] at hp
        simp -implicitDefEqProofs
        by_cases hk0 : k = 0
        · rw [if_pos hk0] at hp
          subst hp
          exact ⟨fun _ => ⟨rfl, .refl⟩, fun h => absurd hk0 h⟩
        · rw [if_neg hk0] at hp
          refine ⟨fun h => absurd h hk0, fun _ => ?_⟩
          refine callK_of (c_l08Is ([[.str [], .str []], [.str nm, .str ws]] :: A) X r3 Y C [93] ho) ?_
          have wk1 : IntKind.i64.wrap ((k : Int) - 1) = (k - 1 : Nat) := by rw [wrap64 (by omega) (by omega)]; omega
          cases h93 : isS r3 [93] with
          | true =>
            obtain ⟨_, hlt⟩ := isS_lt h93
            rw [h93, if_pos rfl] at hp
            simp -implicitDefEqProofs
            by_cases h8 : 8 ≤ ws.length
            · rw [if_pos h8] at hp
              have hW := c_l09Wrap ([[.str [], .str []], [.str nm, .str ws]] :: A) X Y C r3 nm ws [93] ho (by omega) (by simp)
              rw [if_pos h8, if_pos h8] at hW
              refine callK_of hW ?_
              have f8 := failR_code (r := r3) (c := 8) (by decide)
              simp -implicitDefEqProofs [wk1]
              exact ⟨0, by omega, _, St.le_of (by simp) (by simp [St.trunc, look, mapV, mapC, killP]) rfl (by simp [St.trunc, mapC]), (hJ _ _).2 ⟨failR r3 8, k - 1, n, ws, failR_ok ho, by omega, hw8, hwb, by rw [if_neg f8], by rw [failR_t.1, failR_t.2.1]; omega, by rw [typLS, if_pos f8]; exact hp, rfl⟩⟩
            · rw [if_neg h8] at hp
              have hW := c_l09Wrap ([[.str [], .str []], [.str nm, .str ws]] :: A) X Y C r3 nm ws [93] ho (by omega) (by simp)
              rw [if_neg h8, if_neg h8] at hW
              refine callK_of hW ?_
              obtain ⟨n, rfl⟩ : ∃ n', n = n' + 1 := ⟨n - 1, by omega⟩
              simp -implicitDefEqProofs [wk1]
              have hcn : (nextR r3).code = 0 := hc
              exact ⟨r3.t.length - (r3.at_ + 1) + 1, by omega, _, St.le_of (by simp) (by simp [St.trunc, look, mapV, mapC, killP]) rfl (by simp [St.trunc, mapC]), (hJ _ _).2 ⟨nextR r3, k - 1, n, ws ++ [93], nextR_ok ho hlt, by omega, by have h9 := h8; simp only [List.length_append, List.length_cons, List.length_nil] at h9 ⊢; omega, fun c hc' => by
                rcases List.mem_append.1 hc' with h | h
                · exact hwb c h
                · simp at h; simp [h], by rw [if_pos hcn]; rfl, by unfold nextR; simp only; omega, hp, rfl⟩⟩
          | false =>
            rw [h93, if_neg (by simp)] at hp
            subst hp
            simp -implicitDefEqProofs
            refine callK_of (c_l08Bad ([[.str [], .str []], [.str nm, .str ws]] :: A) X r3 Y C 7 ho) ?_
            simp -implicitDefEqProofs (maxDischargeDepth := 6) [AC.le_agg]
    · rw [if_pos hc] at hp
      subst hp
      simp -implicitDefEqProofs (maxDischargeDepth := 6) [hc, AC.le_agg]
end Go.Proofs.YtkefgpmnimpcdaaGreatDoor.Abs
