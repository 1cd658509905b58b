/- The reference's reader of Json: a value. No condition. -/
import Derived.Test.YthagllbnkbahnaaDoorTxZM
set_option linter.unusedVariables false
set_option linter.unusedSimpArgs false
namespace Go.Proofs.YthagllbnkbahnaaDoor.Abs
open Go
set_option maxHeartbeats 4000000
set_option maxRecDepth 100000
/-- A value, read by the reference. -/
def spJ : Nat → Bs → Nat → DJson × Int := fun d s a => match s[pass s a]? with
  | none => (zJ, -1)
  | some b => if b = 34 then (⟨5, (strS s (pass s a)).1, [], []⟩, (strS s (pass s a)).2) else
    if b = 91 ∨ b = 123 then (match d with
      | 0 => (⟨kindP (decide (b = 123)), [], [], []⟩, -1)
      | d + 1 => spM (spJ d s) s (decide (b = 123)) (pass s a + 1)) else
    match leafS s (pass s a) with
    | some x => (x.1, (x.2 : Int))
    | none => (zJ, -1)
def wordT (s : Bs) (p : Nat) : Bs := (s.drop p).take (runP isWd (s.drop p))
def wordE (s : Bs) (p : Nat) : Nat := p + runP isWd (s.drop p)
theorem isWd_iff (b : UInt8) : isWd b = ((isLet b || isUn b) || (isFig b || (decide ((b.toNat : Int) = 46) || (decide ((b.toNat : Int) = 43) || decide ((b.toNat : Int) = 45))))) :=
  u8_all (p := fun b => isWd b = ((isLet b || isUn b) || (isFig b || (decide ((b.toNat : Int) = 46) || (decide ((b.toNat : Int) = 43) || decide ((b.toNat : Int) = 45)))))) (by decide) b
theorem c_l22ReadW (s : Bs) (a d : Nat) (ha : a ≤ s.length) (hs : s.length ≤ 1000000) (hd : d ≤ 20) (p : Nat) (hp : pass s a = p) (R : DJson × Int)
    (h1 : s[p]? = none → R = (zJ, -1))
    (h2 : s[p]? = some 34 → R = (⟨5, (strS s p).1, [], []⟩, (strS s p).2))
    (h3 : ∀ b, s[p]? = some b → b = 91 ∨ b = 123 → ∀ K, Ct Tryd.prog 21 [.str s, .int .i64 p, .int .i64 d] K (.tup [.agg (encL .no (tJson R.1)), .int .i64 R.2]) K)
    (h4 : ∀ b, s[p]? = some b → b ≠ 34 → ¬ (b = 91 ∨ b = 123) → R = match leafS s p with
      | some x => (x.1, (x.2 : Int))
      | none => (zJ, -1)) (K) :
    Ct Tryd.prog 9 [.str s, .int .i64 a, .int .i64 d] K (.tup [.agg (encL .no (tJson R.1)), .int .i64 R.2]) K := by
  have ps := fun K => c_l22Pass s a ha (by omega) K
  have hpl := pass_le ha
  have st := fun (a : Nat) (h : a ≤ s.length) K => c_l22String s a h hs K
  rw [hp] at ps hpl
  have v1 : IntKind.i64.wrap 1 = 1 := rfl
  have v2 : IntKind.i64.wrap 2 = 2 := rfl
  have v3 : IntKind.i64.wrap 3 = 3 := rfl
  have v4 : IntKind.i64.wrap 4 = 4 := rfl
  have v5 : IntKind.i64.wrap 5 = 5 := rfl
  refine ct_fn { n0 := 12, ex := [22, 34], tk := [14, 19, 28, 32, 33, 52, 57, 87, 88, 92, 93, 97, 98, 101, 104, 107, 108, 109] } Tryd.func9 rfl (by kernel_rfl) (by kernel_rfl) rfl ?_
  simp -implicitDefEqProofs [Tryd.f9]
  refine callK_of (ps _) ?_
  rcases Nat.lt_or_ge p s.length with hlt | hge
  · obtain ⟨b, hx⟩ : ∃ b, s[p]? = some b := ⟨_, List.getElem?_eq_getElem hlt⟩
    have hxe : s[p]'hlt = b := (List.getElem?_eq_some_iff.1 hx).2
    have b34 : (b.toNat : Int) = 34 ↔ b = 34 := u8_eq (c := 34)
    have b91 : (b.toNat : Int) = 91 ↔ b = 91 := u8_eq (c := 91)
    have b123 : (b.toNat : Int) = 123 ↔ b = 123 := u8_eq (c := 123)
    have hn : ¬ s.length ≤ p := by omega
    by_cases c1 : b = 34
    · have hR := h2 (c1 ▸ hx)
      have hs0 := st p hpl
      rw [hR]
      simp -implicitDefEqProofs [hn, hlt, hx, hxe, b34, c1]
      intro _
      refine callK_of (hs0 _) ?_
      simp -implicitDefEqProofs (maxDischargeDepth := 6) [v5, tJson, encL, encT, encR, tJsonS, tStrS, AC.le_agg]
    by_cases c2 : b = 91 ∨ b = 123
    · have hM := h3 b hx c2
      have hek := encL_len (m := .no) (r := tJson R.1)
      rw [tJson_len] at hek
      have htk : (encL .no (tJson R.1)).take 4 = encL .no (tJson R.1) := List.take_of_length_le (by omega)
      rcases c2 with rfl | rfl
      · simp -implicitDefEqProofs [hn, hlt, hx, hxe]
        intro _
        refine callK_of (hM _) ?_
        simp -implicitDefEqProofs [hek, htk]
      · simp -implicitDefEqProofs [hn, hlt, hx, hxe]
        intro _
        refine callK_of (hM _) ?_
        simp -implicitDefEqProofs [hek, htk]
    · have hR := h4 b hx c1 c2
      have n1 : b ≠ 91 := fun e => c2 (.inl e)
      have n2 : b ≠ 123 := fun e => c2 (.inr e)
      have hrl := runP_le (p := isWd) (l := s.drop p)
      rw [List.length_drop] at hrl
      simp -implicitDefEqProofs [hn, hlt, hx, hxe, b34, b91, b123, c1, n1, n2]
      intro _
      obtain ⟨I, hI⟩ : ∃ I : Nat → St → Prop, ∀ m st, I m st ↔ ∃ i, p ≤ i ∧ i ≤ s.length ∧ m = s.length - i ∧ i + runP isWd (s.drop i) = wordE s p ∧
        st = { env := [(0, .str s), (1, .int .i64 p), (2, .int .i64 d), (6, .ptr 0 0 0), (7, .int .i64 0), (10, .int .i64 i)], loc := [],
               K := [[.int .i64 0, .str [], .sl .nil 0 [], .sl .nil 0 []]] :: K } := ⟨_, fun _ _ => Iff.rfl⟩
      refine wC_loopI I (s.length - p) ((hI _ _).2 ⟨p, Nat.le_refl _, hpl, rfl, rfl, rfl⟩) (St.le_of (by simp) (by simp) rfl (by simp)) ?_
      intro m st0 hst
      obtain ⟨i, hpi, hi, rfl, hpw, rfl⟩ := (hI _ _).1 hst
      clear hst
      have done : i = wordE s p → (s.take i).drop p = wordT s p := by
        intro e
        unfold wordT wordE at *
        rw [e, List.take_add, List.drop_append, List.drop_of_length_le (by rw [List.length_take]; omega), List.nil_append, List.length_take, Nat.min_eq_left hpl]
        simp
      have hwl : (wordT s p).length ≤ 1000000 := by unfold wordT; rw [List.length_take, List.length_drop]; omega
      have cI := fun K => c_IntOkS (wordT s p) (by omega) K
      have cF := fun K => c_FloatOkS (wordT s p) (by omega) K
      rw [show leafS s p = (if wordT s p = nullW then some (⟨1, [], [], []⟩, wordE s p) else if wordT s p = trueW then some (⟨2, [], [], []⟩, wordE s p) else if wordT s p = falseW then some (⟨3, [], [], []⟩, wordE s p) else
        if (intOk (wordT s p) || floatOk (wordT s p)) then some (⟨4, wordT s p, [], []⟩, wordE s p) else none) from rfl] at hR
      have r1 : wordT s p = [110, 117, 108, 108] → R = (⟨1, [], [], []⟩, (wordE s p : Int)) := fun h => by rw [hR, if_pos (show wordT s p = nullW from h)]
      have r2 : ¬ wordT s p = [110, 117, 108, 108] → wordT s p = [116, 114, 117, 101] → R = (⟨2, [], [], []⟩, (wordE s p : Int)) := fun n1 h => by rw [hR, if_neg (show ¬ wordT s p = nullW from n1), if_pos (show wordT s p = trueW from h)]
      have r3 : ¬ wordT s p = [110, 117, 108, 108] → ¬ wordT s p = [116, 114, 117, 101] → wordT s p = [102, 97, 108, 115, 101] → R = (⟨3, [], [], []⟩, (wordE s p : Int)) := fun n1 n2 h => by rw [hR, if_neg (show ¬ wordT s p = nullW from n1), if_neg (show ¬ wordT s p = trueW from n2), if_pos (show wordT s p = falseW from h)]
      have r4 : ¬ wordT s p = [110, 117, 108, 108] → ¬ wordT s p = [116, 114, 117, 101] → ¬ wordT s p = [102, 97, 108, 115, 101] → R = if (intOk (wordT s p) || floatOk (wordT s p)) then (⟨4, wordT s p, [], []⟩, (wordE s p : Int)) else (zJ, -1) := fun n1 n2 n3 => by
        rw [hR, if_neg (show ¬ wordT s p = nullW from n1), if_neg (show ¬ wordT s p = trueW from n2), if_neg (show ¬ wordT s p = falseW from n3)]
        cases (intOk (wordT s p) || floatOk (wordT s p)) <;> rfl
      rcases Nat.lt_or_ge i s.length with hlt2 | hge2
      · obtain ⟨c, hc⟩ : ∃ c, s[i]? = some c := ⟨_, List.getElem?_eq_getElem hlt2⟩
        have hce : s[i]'hlt2 = c := (List.getElem?_eq_some_iff.1 hc).2
        have w1 : IntKind.i64.wrap ((i : Int) + 1) = (i + 1 : Nat) := by rw [wrap64 (by omega) (by omega)]; rfl
        have hwd := isWd_iff c
        rw [drop_cons hc, runP_cons] at hpw
        simp -implicitDefEqProofs [hlt2, hc, hce]
        intro _
        refine callK_still (fun _ => c_l03Letter c _) ?_
        simp -implicitDefEqProofs [hlt2, hc, hce]
        refine callK_still (fun _ => c_l03Figure c _) ?_
        simp -implicitDefEqProofs [hlt2, hc, hce, w1]
        refine ⟨fun h => ?_, fun g1 g2 g3 g4 g5 g6 => ?_⟩
        · have ht : isWd c = true := by
            rw [hwd]
            rcases h with ((((h | h) | h) | h) | h) | h
            · simp [h]
            · simp [h]
            · simp [h]
            · rw [decide_eq_true h]; simp
            · rw [decide_eq_true h]; simp
            · rw [decide_eq_true h]; simp
          rw [ht, if_pos rfl] at hpw
          exact ⟨s.length - (i + 1), by omega, _, St.le_of (by simp) (by simp [St.trunc, look, mapV, mapC, killP]) rfl (by simp [St.trunc, mapC]), (hI _ _).2 ⟨i + 1, by omega, by omega, rfl, by omega, rfl⟩⟩
        · have hf : isWd c = false := by rw [hwd, g1, g2, g3, decide_eq_false g4, decide_eq_false g5, decide_eq_false g6]; rfl
          have hne : i = wordE s p := by rw [hf] at hpw; simpa using hpw
          have hd0 := done hne
          refine ⟨⟨by omega, by omega⟩, ?_⟩
          rw [hd0]
          refine ⟨fun h => ?_, fun e1 => ⟨fun h => ?_, fun e2 => ⟨fun h => ?_, fun e3 => ?_⟩⟩⟩
          · rw [r1 h]
            simp (maxDischargeDepth := 6) [v1, v2, v3, v4, zJ, tJson, encL, encT, encR, tJsonS, tStrS, AC.le_agg]; try omega
          · rw [r2 e1 h]
            simp (maxDischargeDepth := 6) [v1, v2, v3, v4, zJ, tJson, encL, encT, encR, tJsonS, tStrS, AC.le_agg]; try omega
          · rw [r3 e1 e2 h]
            simp (maxDischargeDepth := 6) [v1, v2, v3, v4, zJ, tJson, encL, encT, encR, tJsonS, tStrS, AC.le_agg]; try omega
          · have hR4 := r4 e1 e2 e3
            refine callK_of (cI _) ?_
            generalize intOk (wordT s p) = x1 at *
            simp -implicitDefEqProofs
            refine callK_still (fun _ => cF _) ?_
            generalize floatOk (wordT s p) = x2 at *
            rw [hR4]
            cases x1 <;> cases x2 <;> simp -implicitDefEqProofs (maxDischargeDepth := 6) [v1, v2, v3, v4, zJ, tJson, encL, encT, encR, tJsonS, tStrS, AC.le_agg] <;> try omega
      · have hn2 : ¬ i < s.length := by omega
        have hne : i = wordE s p := by rw [drop_nil hge2] at hpw; simpa [runP] using hpw
        simp -implicitDefEqProofs [hn2]
        intro _
        refine callK_still (r := .bool false) (fun h => absurd h (by simp)) ?_
        simp -implicitDefEqProofs
        refine callK_still (r := .bool false) (fun h => absurd h (by simp)) ?_
        have hd0 := done hne
        simp -implicitDefEqProofs
        refine ⟨⟨by omega, by omega⟩, ?_⟩
        rw [hd0]
        refine ⟨fun h => ?_, fun e1 => ⟨fun h => ?_, fun e2 => ⟨fun h => ?_, fun e3 => ?_⟩⟩⟩
        · rw [r1 h]
          simp (maxDischargeDepth := 6) [v1, v2, v3, v4, zJ, tJson, encL, encT, encR, tJsonS, tStrS, AC.le_agg]; try omega
        · rw [r2 e1 h]
          simp (maxDischargeDepth := 6) [v1, v2, v3, v4, zJ, tJson, encL, encT, encR, tJsonS, tStrS, AC.le_agg]; try omega
        · rw [r3 e1 e2 h]
          simp (maxDischargeDepth := 6) [v1, v2, v3, v4, zJ, tJson, encL, encT, encR, tJsonS, tStrS, AC.le_agg]; try omega
        · have hR4 := r4 e1 e2 e3
          refine callK_of (cI _) ?_
          generalize intOk (wordT s p) = x1 at *
          simp -implicitDefEqProofs
          refine callK_still (fun _ => cF _) ?_
          generalize floatOk (wordT s p) = x2 at *
          rw [hR4]
          cases x1 <;> cases x2 <;> simp -implicitDefEqProofs (maxDischargeDepth := 6) [v1, v2, v3, v4, zJ, tJson, encL, encT, encR, tJsonS, tStrS, AC.le_agg] <;> try omega
  · have hno := List.getElem?_eq_none hge
    rw [h1 hno]
    simp -implicitDefEqProofs (maxDischargeDepth := 6) [hge, zJ, tJson, encL, encT, encR, tJsonS, tStrS, AC.le_agg]
theorem spL_bnd {sj : Nat → DJson × Int} {s : Bs} {obj : Bool} (hsj : ∀ a, a ≤ s.length → (sj a).2 < 0 ∨ ((a : Int) ≤ (sj a).2 ∧ (sj a).2 ≤ s.length)) : ∀ (n : Nat) (names : List Bs) (items : List DJson) (a : Nat), a ≤ s.length →
    (spL sj s obj n names items a).2 < 0 ∨ ((a : Int) ≤ (spL sj s obj n names items a).2 ∧ (spL sj s obj n names items a).2 ≤ s.length) := by
  intro n
  induction n with
  | zero => intro names items a ha; exact .inl (by simp [spL])
  | succ n ih =>
    intro names items a ha
    rw [spL]
    cases hN : rdN s a obj names with
    | none => exact .inl (by simp)
    | some z =>
      obtain ⟨nm, a'⟩ := z
      have hb := rdN_bnd ha hN
      have hs := hsj a' hb.2
      simp only
      by_cases c0 : (sj a').2 < 0
      · rw [if_pos c0]; exact .inl (by simp)
      rw [if_neg c0]
      have hs : (a' : Int) ≤ (sj a').2 ∧ (sj a').2 ≤ s.length := by rcases hs with h | h; exact absurd h c0; exact h
      generalize hE : (sj a').2.toNat = e
      have he : a' ≤ e := by omega
      have hg := pass_ge s e
      by_cases c1 : s[pass s e]? = some (shutP obj)
      · have := (List.getElem?_eq_some_iff.1 c1).1
        rw [if_pos c1]; right; simp; omega
      rw [if_neg c1]
      by_cases c2 : s[pass s e]? = some 44
      · have h3 := (List.getElem?_eq_some_iff.1 c2).1
        rw [if_pos c2]
        have := ih nm (items ++ [(sj a').1]) (pass s e + 1) h3
        omega
      · rw [if_neg c2]; exact .inl (by simp)
theorem spM_bnd {sj : Nat → DJson × Int} {s : Bs} {obj : Bool} (hsj : ∀ a, a ≤ s.length → (sj a).2 < 0 ∨ ((a : Int) ≤ (sj a).2 ∧ (sj a).2 ≤ s.length)) (a : Nat) (ha : a ≤ s.length) :
    (spM sj s obj a).2 < 0 ∨ ((a : Int) ≤ (spM sj s obj a).2 ∧ (spM sj s obj a).2 ≤ s.length) := by
  have h1 := pass_le ha
  have h2 := pass_ge s a
  unfold spM
  by_cases c1 : s[pass s a]? = some (shutP obj)
  · have := (List.getElem?_eq_some_iff.1 c1).1
    rw [if_pos c1]; right; simp; omega
  · rw [if_neg c1]
    have := spL_bnd (obj := obj) hsj (s.length - pass s a + 1) [] [] (pass s a) h1
    omega
theorem leafS_bnd' {s : Bs} {a : Nat} {x : DJson × Nat} (h : leafS s a = some x) (ha : a ≤ s.length) : a ≤ x.2 ∧ x.2 ≤ s.length := by
  have h5 := runP_le (p := isWd) (l := s.drop a)
  rw [List.length_drop] at h5
  unfold leafS at h
  split at h
  · cases h; simp; omega
  · split at h
    · cases h; simp; omega
    · split at h
      · cases h; simp; omega
      · split at h
        · cases h; simp; omega
        · cases h
theorem spJ_cases (P : DJson × Int → Prop) (d : Nat) (s : Bs) (a p : Nat) (hp : pass s a = p)
    (h1 : s[p]? = none → P (zJ, -1))
    (h2 : s[p]? = some 34 → P (⟨5, (strS s p).1, [], []⟩, (strS s p).2))
    (h3 : ∀ b, s[p]? = some b → b = 91 ∨ b = 123 → d = 0 → P (⟨kindP (decide (b = 123)), [], [], []⟩, -1))
    (h4 : ∀ b d', s[p]? = some b → b = 91 ∨ b = 123 → d = d' + 1 → P (spM (spJ d' s) s (decide (b = 123)) (p + 1)))
    (h5 : ∀ b, s[p]? = some b → b ≠ 34 → ¬ (b = 91 ∨ b = 123) → P (match leafS s p with
      | some x => (x.1, (x.2 : Int))
      | none => (zJ, -1))) : P (spJ d s a) := by
  unfold spJ
  rw [hp]
  cases hb : s[p]? with
  | none => exact h1 hb
  | some b =>
    simp only
    by_cases c1 : b = 34
    · rw [if_pos c1]; exact h2 (c1 ▸ hb)
    rw [if_neg c1]
    by_cases c2 : b = 91 ∨ b = 123
    · rw [if_pos c2]
      cases d with
      | zero => exact h3 b hb c2 rfl
      | succ d => exact h4 b d hb c2 rfl
    · rw [if_neg c2]; exact h5 b hb c1 c2
theorem spJ_bnd {s : Bs} : ∀ (d a : Nat), a ≤ s.length → (spJ d s a).2 < 0 ∨ ((a : Int) ≤ (spJ d s a).2 ∧ (spJ d s a).2 ≤ s.length) := by
  have key : ∀ d : Nat, (∀ d' : Nat, d = d' + 1 → ∀ a, a ≤ s.length → (spJ d' s a).2 < 0 ∨ ((a : Int) ≤ (spJ d' s a).2 ∧ (spJ d' s a).2 ≤ s.length)) → ∀ a, a ≤ s.length → (spJ d s a).2 < 0 ∨ ((a : Int) ≤ (spJ d s a).2 ∧ (spJ d s a).2 ≤ s.length) := by
    intro d ih a ha
    have h1 := pass_le ha
    have h2 := pass_ge s a
    refine spJ_cases (fun r => r.2 < 0 ∨ ((a : Int) ≤ r.2 ∧ r.2 ≤ s.length)) d s a (pass s a) rfl (fun h => .inl (by simp)) (fun h => ?_) (fun _ _ _ _ => .inl (by simp)) (fun b d' hb _ hd => ?_) (fun b hb _ _ => ?_)
    · unfold strS
      cases hS : rdStr s (pass s a) with
      | none => exact .inl (by simp)
      | some x =>
        have := rdStr_bnd (t := x.1) (e := x.2) hS
        right; simp; omega
    · have hlt := (List.getElem?_eq_some_iff.1 hb).1
      have := spM_bnd (obj := decide (b = 123)) (ih d' hd) (pass s a + 1) hlt
      omega
    · cases hL : leafS s (pass s a) with
      | none => exact .inl (by simp)
      | some x =>
        have := leafS_bnd' hL h1
        right; simp; omega
  intro d
  induction d with
  | zero => exact key 0 (fun d' h => by omega)
  | succ d ih => exact key (d + 1) (fun d' h => by obtain rfl : d = d' := by omega
                                                   exact ih)
theorem c_l22Read (s : Bs) (hs : s.length ≤ 1000000) : ∀ (d : Nat), d ≤ 20 → ∀ a, a ≤ s.length → ∀ K, Ct Tryd.prog 9 [.str s, .int .i64 a, .int .i64 d] K (.tup [.agg (encL .no (tJson (spJ d s a).1)), .int .i64 (spJ d s a).2]) K := by
  have key : ∀ d : Nat, d ≤ 20 → (∀ d' : Nat, d = d' + 1 → ∀ a : Nat, a ≤ s.length → ∀ K, Ct Tryd.prog 9 [.str s, .int .i64 a, .int .i64 d'] K (.tup [.agg (encL .no (tJson (spJ d' s a).1)), .int .i64 (spJ d' s a).2]) K) →
      ∀ a, a ≤ s.length → ∀ K, Ct Tryd.prog 9 [.str s, .int .i64 a, .int .i64 d] K (.tup [.agg (encL .no (tJson (spJ d s a).1)), .int .i64 (spJ d s a).2]) K := by
    intro d hd ih a ha K
    generalize hp : pass s a = p
    refine c_l22ReadW s a d ha hs hd p hp _ (fun h => ?_) (fun h => ?_) (fun b hb hbr K => ?_) (fun b hb n1 n2 => ?_) K
    · unfold spJ; rw [hp, h]
    · unfold spJ; rw [hp, h]; rfl
    · have hlt := (List.getElem?_eq_some_iff.1 hb).1
      have n1 : b ≠ 34 := by rcases hbr with rfl | rfl <;> decide
      have hb2 : s[p]? = some (if decide (b = 123) then 123 else 91) := by rcases hbr with rfl | rfl <;> exact hb
      cases d with
      | zero =>
        have := c_l22Many s 0 hs (by omega) (fun _ => (zJ, -1)) (fun _ _ => .inl (by simp)) (fun h => absurd rfl h) p (decide (b = 123)) hb2 K
        rw [if_pos rfl] at this
        have e : spJ 0 s a = (⟨kindP (decide (b = 123)), [], [], []⟩, -1) := by
          unfold spJ; rw [hp, hb]; simp only; rw [if_neg n1, if_pos hbr]
        rw [e]; exact this
      | succ d =>
        have := c_l22Many s (d + 1) hs hd (spJ d s) (fun a ha => spJ_bnd d a ha) (fun _ a ha K => by
          have := ih d rfl a ha K
          rw [show ((d + 1 : Nat) : Int) - 1 = d by omega]; exact this) p (decide (b = 123)) hb2 K
        rw [if_neg (by omega)] at this
        have e : spJ (d + 1) s a = spM (spJ d s) s (decide (b = 123)) (p + 1) := by
          conv => lhs; unfold spJ
          rw [hp, hb]; simp only; rw [if_neg n1, if_pos hbr]
        rw [e]; exact this
    · unfold spJ; rw [hp, hb]; simp only; rw [if_neg n1, if_neg n2]
  intro d
  induction d with
  | zero => intro hd; exact key 0 hd (fun d' h => by omega)
  | succ d ih => intro hd; exact key (d + 1) hd (fun d' h => by obtain rfl : d = d' := by omega
                                                                exact ih (by omega))
/-! The reference reads what the plain reader reads. -/
def RdS (rd : Option (DJson × Nat)) (r : DJson × Int) : Prop := match rd with
  | some x => r = (x.1, (x.2 : Int))
  | none => r.2 < 0
theorem spL_rd {sj : Nat → DJson × Int} {s : Bs} {obj : Bool} {d : Nat} (hsj : ∀ a, a ≤ s.length → (sj a).2 < 0 ∨ ((a : Int) ≤ (sj a).2 ∧ (sj a).2 ≤ s.length))
    (hrd : ∀ a, a ≤ s.length → ∀ m, 3 * (s.length - a) + 1 ≤ m → RdS (rdJ leafS m s a d) (sj a)) : ∀ (n : Nat) (names : List Bs) (items : List DJson) (a : Nat), a ≤ s.length → s.length - a < n →
    ∀ m, 3 * (s.length - a) + 2 ≤ m → RdS (rdL leafS m s a obj d names items) (spL sj s obj n names items a) := by
  intro n
  induction n with
  | zero => intro _ _ _ _ h; omega
  | succ n ih =>
    intro names items a ha hn m hm
    obtain ⟨m, rfl⟩ : ∃ m', m = m' + 1 := ⟨m - 1, by omega⟩
    rw [rdL_eq, spL]
    cases hN : rdN s a obj names with
    | none => exact (by simp [RdS])
    | some z =>
      obtain ⟨nm, a'⟩ := z
      simp only
      have hb := rdN_bnd ha hN
      have hr := hrd a' hb.2 m (by omega)
      have hpb := hsj a' hb.2
      cases hJ : rdJ leafS m s a' d with
      | none =>
        rw [hJ] at hr
        have hf : (sj a').2 < 0 := hr
        rw [if_pos hf]
        exact (by simp [RdS])
      | some y =>
        obtain ⟨x, e⟩ := y
        rw [hJ] at hr
        have hr : sj a' = (x, (e : Int)) := hr
        rw [hr] at hpb ⊢
        have hpb1 : a' ≤ e ∧ e ≤ s.length := by rcases hpb with h | h <;> (simp only at h; omega)
        have hg := pass_ge s e
        simp only [Int.toNat_natCast]
        rw [if_neg (show ¬ ((e : Int) < 0) by omega)]
        by_cases c1 : s[pass s e]? = some (shutP obj)
        · rw [if_pos c1, if_pos c1]; exact rfl
        rw [if_neg c1, if_neg c1]
        by_cases c2 : s[pass s e]? = some 44
        · rw [if_pos c2, if_pos c2]
          have hlt := (List.getElem?_eq_some_iff.1 c2).1
          exact ih nm (items ++ [x]) (pass s e + 1) hlt (by omega) m (by omega)
        · rw [if_neg c2, if_neg c2]; exact (by simp [RdS])
theorem spM_rd {sj : Nat → DJson × Int} {s : Bs} {obj : Bool} {d : Nat} (hsj : ∀ a, a ≤ s.length → (sj a).2 < 0 ∨ ((a : Int) ≤ (sj a).2 ∧ (sj a).2 ≤ s.length))
    (hrd : ∀ a, a ≤ s.length → ∀ m, 3 * (s.length - a) + 1 ≤ m → RdS (rdJ leafS m s a d) (sj a)) (a : Nat) (ha : a ≤ s.length) (m : Nat) (hm : 3 * (s.length - a) + 3 ≤ m) :
    RdS (rdP leafS m s a obj d) (spM sj s obj a) := by
  obtain ⟨m, rfl⟩ : ∃ m', m = m' + 1 := ⟨m - 1, by omega⟩
  have h1 := pass_le ha
  have h2 := pass_ge s a
  rw [rdP]
  unfold spM
  by_cases c1 : s[pass s a]? = some (shutP obj)
  · rw [if_pos c1, if_pos c1]; exact rfl
  rw [if_neg c1, if_neg c1, ← rdL_pass]
  exact spL_rd hsj hrd _ [] [] (pass s a) h1 (by omega) m (by omega)
theorem spJ_rd {s : Bs} : ∀ (d a : Nat), a ≤ s.length → ∀ m, 3 * (s.length - a) + 1 ≤ m → RdS (rdJ leafS m s a d) (spJ d s a) := by
  have key : ∀ d : Nat, (∀ d' : Nat, d = d' + 1 → ∀ a, a ≤ s.length → ∀ m, 3 * (s.length - a) + 1 ≤ m → RdS (rdJ leafS m s a d') (spJ d' s a)) → ∀ a, a ≤ s.length → ∀ m, 3 * (s.length - a) + 1 ≤ m → RdS (rdJ leafS m s a d) (spJ d s a) := by
    intro d ih a ha m hm
    obtain ⟨m, rfl⟩ : ∃ m', m = m' + 1 := ⟨m - 1, by omega⟩
    have h2 := pass_ge s a
    rw [rdJ]
    generalize hp : pass s a = p at *
    refine spJ_cases (fun r => RdS _ r) d s a p hp (fun h => ?_) (fun h => ?_) (fun b hb hbr hd0 => ?_) (fun b d' hb hbr hd => ?_) (fun b hb n1 n2 => ?_)
    · rw [h]; exact (by simp [RdS])
    · rw [h]; simp only [if_true]
      unfold strS
      cases hS : rdStr s p with
      | none => exact (by simp [RdS])
      | some x => exact rfl
    · have n1 : b ≠ 34 := by rcases hbr with rfl | rfl <;> decide
      rw [hb]; simp only; rw [if_neg n1, if_pos hbr, if_pos hd0]; exact (by simp [RdS])
    · have n1 : b ≠ 34 := by rcases hbr with rfl | rfl <;> decide
      rw [hb]; simp only; rw [if_neg n1, if_pos hbr, if_neg (by omega)]
      have hlt := (List.getElem?_eq_some_iff.1 hb).1
      have e : d - 1 = d' := by omega
      rw [e]
      exact spM_rd (fun a ha => spJ_bnd d' a ha) (ih d' hd) (p + 1) hlt m (by omega)
    · rw [hb]; simp only; rw [if_neg n1, if_neg n2]
      cases hL : leafS s p with
      | none => exact (by simp [RdS])
      | some x => exact rfl
  intro d
  induction d with
  | zero => exact key 0 (fun d' h => by omega)
  | succ d ih => exact key (d + 1) (fun d' h => by obtain rfl : d = d' := by omega
                                                   exact ih)
end Go.Proofs.YthagllbnkbahnaaDoor.Abs
