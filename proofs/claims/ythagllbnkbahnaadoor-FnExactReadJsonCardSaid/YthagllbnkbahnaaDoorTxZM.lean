/- The reference's reader of Json: parts. No condition. -/
import Derived.Test.YthagllbnkbahnaaDoorTxZ
set_option linter.unusedVariables false
set_option linter.unusedSimpArgs false
namespace Go.Proofs.YthagllbnkbahnaaDoor.Abs
open Go
set_option maxHeartbeats 4000000
set_option maxRecDepth 100000
/-- The parts, read by the reference, where sj tells what a value is read as. -/
def spL (sj : Nat → DJson × Int) (s : Bs) (obj : Bool) : Nat → List Bs → List DJson → Nat → DJson × Int
  | 0, names, items, a => (zJ, -1)
  | n + 1, names, items, a => match rdN s a obj names with
    | none => (⟨kindP obj, [], items, names⟩, -1)
    | some z => if (sj z.2).2 < 0 then (⟨kindP obj, [], items, z.1⟩, -1) else
      if s[pass s (sj z.2).2.toNat]? = some (shutP obj) then (⟨kindP obj, [], items ++ [(sj z.2).1], z.1⟩, ((pass s (sj z.2).2.toNat + 1 : Nat) : Int)) else
      if s[pass s (sj z.2).2.toNat]? = some 44 then spL sj s obj n z.1 (items ++ [(sj z.2).1]) (pass s (sj z.2).2.toNat + 1) else
      (⟨kindP obj, [], items ++ [(sj z.2).1], z.1⟩, -1)
def spM (sj : Nat → DJson × Int) (s : Bs) (obj : Bool) (a : Nat) : DJson × Int :=
  if s[pass s a]? = some (shutP obj) then (⟨kindP obj, [], [], []⟩, ((pass s a + 1 : Nat) : Int)) else spL sj s obj (s.length - pass s a + 1) [] [] (pass s a)
theorem atc (s : Bs) (p : Nat) (c : UInt8) : s[p]? = some c ↔ p < s.length ∧ ((s[p]?.getD 0).toNat : Int) = c.toNat := by
  rcases Nat.lt_or_ge p s.length with h | h
  · obtain ⟨b, hb⟩ : ∃ b, s[p]? = some b := ⟨_, List.getElem?_eq_getElem h⟩
    rw [hb]
    simp only [Option.some.injEq, Option.getD_some, h, true_and]
    exact ⟨fun e => by rw [e], fun e => UInt8.toNat_inj.1 (by omega)⟩
  · rw [List.getElem?_eq_none h]
    simp only [reduceCtorEq, false_iff, not_and]; intro h2; omega
theorem le_ownS {ty n : Nat} {cs : List AC} (h : shareL cs = cs) : AC.le (.sl (.of ty) n cs) (.sl .no n cs) := by
  have := @AC.le.share (.sl (.of ty) n cs)
  rwa [share, h] at this
theorem shareL_appX {a b : List AC} : shareL (a ++ b) = shareL a ++ shareL b := by rw [shareL_eq, List.map_append, ← shareL_eq, ← shareL_eq]
theorem shareL_strX {t : Bs} {l : List AC} : shareL (.str t :: l) = .str t :: shareL l := by rw [shareL_eq, shareL_eq]; rfl
theorem shareL_nilX : shareL [] = [] := by rw [shareL_eq]; rfl
theorem le_str1 {ty : Nat} {t : Bs} : AC.le (.sl (.of ty) 1 [.str t]) (.sl .no 1 [.str t]) := le_ownS (by rw [shareL_strX, shareL_nilX])
theorem c_l22Many (s : Bs) (d : Nat) (hs : s.length ≤ 1000000) (hd : d ≤ 20) (sj : Nat → DJson × Int) (hsj : ∀ a, a ≤ s.length → (sj a).2 < 0 ∨ ((a : Int) ≤ (sj a).2 ∧ (sj a).2 ≤ s.length))
    (hJ : d ≠ 0 → ∀ a : Nat, a ≤ s.length → ∀ K, Ct Tryd.prog 9 [.str s, .int .i64 a, .int .i64 ((d : Int) - 1)] K (.tup [.agg (encL .no (tJson (sj a).1)), .int .i64 (sj a).2]) K)
    (a : Nat) (obj : Bool) (ha : s[a]? = some (if obj then 123 else 91)) (K) :
    Ct Tryd.prog 21 [.str s, .int .i64 a, .int .i64 d] K (.tup [.agg (encL .no (tJson (if d = 0 then (⟨kindP obj, [], [], []⟩, -1) else spM sj s obj (a + 1)).1)), .int .i64 (if d = 0 then (⟨kindP obj, [], [], []⟩, -1) else spM sj s obj (a + 1)).2]) K := by
  have hlt := (List.getElem?_eq_some_iff.1 ha).1
  have v6 : IntKind.i64.wrap 6 = 6 := rfl
  have v7 : IntKind.i64.wrap 7 = 7 := rfl
  have w1 : IntKind.i64.wrap ((a : Int) + 1) = (a + 1 : Nat) := by rw [wrap64 (by omega) (by omega)]; rfl
  have wd : IntKind.i64.wrap ((d : Int) - 1) = (d : Int) - 1 := wrap64 (by omega) (by omega)
  have ps := fun (a : Nat) (h : a ≤ s.length) K => c_l22Pass s a h (by omega) K
  have st := fun (a : Nat) (h : a ≤ s.length) K => c_l22String s a h hs K
  have hp : pass s (a + 1) ≤ s.length := pass_le hlt
  generalize hR : (if d = 0 then ((⟨kindP obj, [], [], []⟩, -1) : DJson × Int) else spM sj s obj (a + 1)) = R
  unfold spM at hR
  refine ct_fn { n0 := 14, ex := [], tk := [14, 22, 26, 38, 46, 50, 55, 58, 69, 71, 73, 74, 83, 88, 90, 92, 93, 97, 115, 124, 125] } Tryd.func21 rfl (by kernel_rfl) (by kernel_rfl) rfl ?_
  simp -implicitDefEqProofs [Tryd.f21, v6, v7]
  cases obj with
  | false =>
    simp only [Bool.false_eq_true, if_false, if_true] at ha
    have hae : s[a]'hlt = 91 := (List.getElem?_eq_some_iff.1 ha).2
    simp -implicitDefEqProofs [hlt, hae, ha, w1]
    refine ⟨fun d0 => ?_, fun d0 => callK_of (ps (a + 1) hlt _) ?_⟩
    · rw [if_pos d0] at hR
      subst hR
      simp (maxDischargeDepth := 6) [tJson, encL, encT, encR, tJsonS, tStrS, AC.le_agg, kindP]
    · rw [if_neg d0, show shutP false = 93 from rfl] at hR
      simp -implicitDefEqProofs
      intro _
      have sh := atc s (pass s (a + 1)) 93
      have wp : IntKind.i64.wrap ((pass s (a + 1) : Int) + 1) = (pass s (a + 1) + 1 : Nat) := by rw [wrap64 (by omega) (by omega)]; rfl
      rw [wp]
      refine ⟨fun h1 h2 => ?_, fun h => ?_⟩
      · rw [if_pos (sh.2 ⟨h1, h2⟩)] at hR
        subst hR
        simp (maxDischargeDepth := 6) [tJson, encL, encT, encR, tJsonS, tStrS, AC.le_agg, kindP]
      · rw [if_neg (fun e => h (sh.1 e).1 (sh.1 e).2)] at hR
        obtain ⟨I, hI⟩ : ∃ I : Nat → St → Prop, ∀ m st, I m st ↔ ∃ i items, i ≤ s.length ∧ items.length ≤ i ∧ m = s.length - i ∧ (∃ n, s.length - i ≤ n ∧ spL sj s false (n + 1) [] items i = R) ∧
          st = { env := [(0, .str s), (1, .int .i64 i), (2, .int .i64 d), (6, .ptr 0 0 0), (7, .int .i64 0), (8, .ptr 0 1 0), (9, .int .u8 93)], loc := [],
                 K := [[.int .i64 0, .str [], .sl .nil 0 [], .sl .nil 0 []], [.int .i64 6, .str [], .sl (if items = [] then .nil else .of 25) items.length (encR .no (tJsonS items)), .sl .nil 0 []]] :: K } := ⟨_, fun _ _ => Iff.rfl⟩
        refine wC_loopI I (s.length - pass s (a + 1)) ((hI _ _).2 ⟨pass s (a + 1), [], hp, by simp, rfl, ⟨_, Nat.le_refl _, hR⟩, rfl⟩) (St.le_of (by simp) (by simp) rfl (by simp [tJsonS, encR])) ?_
        intro m st hst
        obtain ⟨i, items, hi, hit, rfl, ⟨n, hn, hRi⟩, rfl⟩ := (hI _ _).1 hst
        clear hst
        simp only [spL, rdN, Bool.false_eq_true, if_false, show shutP false = 93 from rfl] at hRi
        have hJi := hJ d0 i hi
        obtain ⟨⟨x, e⟩, hx⟩ : ∃ z, sj i = z := ⟨_, rfl⟩
        have he := hsj i hi
        rw [hx] at hRi he hJi
        have hek := encL_len (m := .no) (r := tJson x)
        rw [tJson_len] at hek
        have htk : (encL .no (tJson x)).take 4 = encL .no (tJson x) := List.take_of_length_le (by omega)
        simp -implicitDefEqProofs [wd]
        by_cases hne : items = []
        · subst hne
          refine callK_of (hJi _) ?_
          simp -implicitDefEqProofs [hek, htk, tJsonS, tStrS, encR, encL, encT]
          refine ⟨fun he0 => ?_, fun he0 => ?_⟩
          · rw [if_pos he0] at hRi
            subst hRi
            simp (maxDischargeDepth := 6) [tJson, encL, encT, encR, tJsonS, tStrS, tJsonS_app, tStrS_app, encR_app, AC.le_agg, le_ownS, shareL_appX, shareL_strX, shareL_nilX, le_str1, kindP]
          · rw [if_neg (by omega)] at hRi
            obtain ⟨e, rfl⟩ : ∃ e' : Nat, e = e' := ⟨e.toNat, by omega⟩
            simp only [Int.toNat_natCast] at hRi
            have he1 : i ≤ e := by rcases he with h | h; omega; exact Int.ofNat_le.1 h.1
            have he2 : e ≤ s.length := by rcases he with h | h; omega; exact Int.ofNat_le.1 h.2
            have hpe := pass_le he2
            have hge := pass_ge s e
            have q1 := atc s (pass s e) 93
            have q2 := atc s (pass s e) 44
            have wp : IntKind.i64.wrap ((pass s e : Int) + 1) = (pass s e + 1 : Nat) := by rw [wrap64 (by omega) (by omega)]; rfl
            have wm : IntKind.i64.wrap ((pass s e : Nat) : Int) = (pass s e : Nat) := wrap64 (by omega) (by omega)
            refine ⟨by unfold maxLen; omega, callK_of (ps e he2 _) ?_⟩
            simp -implicitDefEqProofs [wp, wm]
            intro _
            refine ⟨fun h _ => h, fun h => ?_, fun h1 h2 => ⟨h1, fun h3 => ?_, fun h3 => ?_⟩⟩
            · have n1 : ¬ s[pass s e]? = some 93 := fun e => by
                have a1 := q1.1 e
                rcases h with h | h
                · omega
                · exact h.2 a1.2
              have n2 : ¬ s[pass s e]? = some 44 := fun e => by
                have a1 := q2.1 e
                rcases h with h | h
                · omega
                · exact h.1 a1.2
              rw [if_neg n1, if_neg n2] at hRi
              subst hRi
              simp (maxDischargeDepth := 6) [tJson, encL, encT, encR, tJsonS, tStrS, tJsonS_app, tStrS_app, encR_app, AC.le_agg, le_ownS, shareL_appX, shareL_strX, shareL_nilX, le_str1, kindP]
            · rw [if_pos (q1.2 ⟨h1, h3⟩)] at hRi
              subst hRi
              simp (maxDischargeDepth := 6) [tJson, encL, encT, encR, tJsonS, tStrS, tJsonS_app, tStrS_app, encR_app, AC.le_agg, le_ownS, shareL_appX, shareL_strX, shareL_nilX, le_str1, kindP]
            · have h4 : ((s[pass s e]?.getD 0).toNat : Int) = 44 := Decidable.byContradiction fun h => h3 (h2 h)
              rw [if_neg (fun e => h3 (q1.1 e).2), if_pos (q2.2 ⟨h1, h4⟩)] at hRi
              obtain ⟨n, rfl⟩ : ∃ n', n = n' + 1 := ⟨n - 1, by omega⟩
              exact ⟨s.length - (pass s e + 1), by omega, _, St.le_of (by simp) (by simp [St.trunc, look, mapV, mapC, killP]) rfl (by simp [St.trunc, mapC, tJsonS, tStrS, encR, encL, encT]), (hI _ _).2 ⟨pass s e + 1, [x], by omega, by simp; try omega, rfl, ⟨n, by omega, hRi⟩, rfl⟩⟩
        · refine callK_of (hJi _) ?_
          simp -implicitDefEqProofs [hek, htk, tJsonS, tStrS, encR, encL, encT, tJsonS_app, tStrS_app, encR_app, hne, encJsonS_len]
          refine ⟨fun he0 => ?_, fun he0 => ?_⟩
          · rw [if_pos he0] at hRi
            subst hRi
            simp (maxDischargeDepth := 6) [tJson, encL, encT, encR, tJsonS, tStrS, tJsonS_app, tStrS_app, encR_app, AC.le_agg, le_ownS, shareL_appX, shareL_strX, shareL_nilX, le_str1, kindP]
          · rw [if_neg (by omega)] at hRi
            obtain ⟨e, rfl⟩ : ∃ e' : Nat, e = e' := ⟨e.toNat, by omega⟩
            simp only [Int.toNat_natCast] at hRi
            have he1 : i ≤ e := by rcases he with h | h; omega; exact Int.ofNat_le.1 h.1
            have he2 : e ≤ s.length := by rcases he with h | h; omega; exact Int.ofNat_le.1 h.2
            have hpe := pass_le he2
            have hge := pass_ge s e
            have q1 := atc s (pass s e) 93
            have q2 := atc s (pass s e) 44
            have wp : IntKind.i64.wrap ((pass s e : Int) + 1) = (pass s e + 1 : Nat) := by rw [wrap64 (by omega) (by omega)]; rfl
            have wm : IntKind.i64.wrap ((pass s e : Nat) : Int) = (pass s e : Nat) := wrap64 (by omega) (by omega)
            refine ⟨by unfold maxLen; omega, by omega, callK_of (ps e he2 _) ?_⟩
            simp -implicitDefEqProofs [wp, wm]
            intro _
            refine ⟨fun h _ => h, fun h => ?_, fun h1 h2 => ⟨h1, fun h3 => ?_, fun h3 => ?_⟩⟩
            · have n1 : ¬ s[pass s e]? = some 93 := fun e => by
                have a1 := q1.1 e
                rcases h with h | h
                · omega
                · exact h.2 a1.2
              have n2 : ¬ s[pass s e]? = some 44 := fun e => by
                have a1 := q2.1 e
                rcases h with h | h
                · omega
                · exact h.1 a1.2
              rw [if_neg n1, if_neg n2] at hRi
              subst hRi
              simp (maxDischargeDepth := 6) [tJson, encL, encT, encR, tJsonS, tStrS, tJsonS_app, tStrS_app, encR_app, AC.le_agg, le_ownS, shareL_appX, shareL_strX, shareL_nilX, le_str1, kindP]
            · rw [if_pos (q1.2 ⟨h1, h3⟩)] at hRi
              subst hRi
              simp (maxDischargeDepth := 6) [tJson, encL, encT, encR, tJsonS, tStrS, tJsonS_app, tStrS_app, encR_app, AC.le_agg, le_ownS, shareL_appX, shareL_strX, shareL_nilX, le_str1, kindP]
            · have h4 : ((s[pass s e]?.getD 0).toNat : Int) = 44 := Decidable.byContradiction fun h => h3 (h2 h)
              rw [if_neg (fun e => h3 (q1.1 e).2), if_pos (q2.2 ⟨h1, h4⟩)] at hRi
              obtain ⟨n, rfl⟩ : ∃ n', n = n' + 1 := ⟨n - 1, by omega⟩
              exact ⟨s.length - (pass s e + 1), by omega, _, St.le_of (by simp) (by simp [St.trunc, look, mapV, mapC, killP]) rfl (by simp [St.trunc, mapC, tJsonS, tStrS, encR, encL, encT, tJsonS_app, tStrS_app, encR_app, hne, encJsonS_len]), (hI _ _).2 ⟨pass s e + 1, (items ++ [x]), by omega, by simp; try omega, rfl, ⟨n, by omega, hRi⟩, rfl⟩⟩
  | true =>
    simp only [Bool.false_eq_true, if_false, if_true] at ha
    have hae : s[a]'hlt = 123 := (List.getElem?_eq_some_iff.1 ha).2
    simp -implicitDefEqProofs [hlt, hae, ha, w1]
    refine ⟨fun d0 => ?_, fun d0 => callK_of (ps (a + 1) hlt _) ?_⟩
    · rw [if_pos d0] at hR
      subst hR
      simp (maxDischargeDepth := 6) [tJson, encL, encT, encR, tJsonS, tStrS, AC.le_agg, kindP]
    · rw [if_neg d0, show shutP true = 125 from rfl] at hR
      simp -implicitDefEqProofs
      intro _
      have sh := atc s (pass s (a + 1)) 125
      have wp : IntKind.i64.wrap ((pass s (a + 1) : Int) + 1) = (pass s (a + 1) + 1 : Nat) := by rw [wrap64 (by omega) (by omega)]; rfl
      rw [wp]
      refine ⟨fun h1 h2 => ?_, fun h => ?_⟩
      · rw [if_pos (sh.2 ⟨h1, h2⟩)] at hR
        subst hR
        simp (maxDischargeDepth := 6) [tJson, encL, encT, encR, tJsonS, tStrS, AC.le_agg, kindP]
      · rw [if_neg (fun e => h (sh.1 e).1 (sh.1 e).2)] at hR
        obtain ⟨I, hI⟩ : ∃ I : Nat → St → Prop, ∀ m st, I m st ↔ ∃ i items names, i ≤ s.length ∧ items.length ≤ i ∧ names.length = items.length ∧ m = s.length - i ∧ (∃ n, s.length - i ≤ n ∧ spL sj s true (n + 1) names items i = R) ∧
          st = { env := [(0, .str s), (1, .int .i64 i), (2, .int .i64 d), (6, .ptr 0 0 0), (7, .int .i64 0), (8, .ptr 0 1 0), (9, .int .u8 125)], loc := [],
                 K := [[.int .i64 0, .str [], .sl .nil 0 [], .sl .nil 0 []], [.int .i64 7, .str [], .sl (if items = [] then .nil else .of 25) items.length (encR .no (tJsonS items)), .sl (if items = [] then .nil else .of 9) items.length (encR .no (tStrS names))]] :: K } := ⟨_, fun _ _ => Iff.rfl⟩
        refine wC_loopI I (s.length - pass s (a + 1)) ((hI _ _).2 ⟨pass s (a + 1), [], [], hp, by simp, rfl, rfl, ⟨_, Nat.le_refl _, hR⟩, rfl⟩) (St.le_of (by simp) (by simp) rfl (by simp [tJsonS, tStrS, encR])) ?_
        intro m st hst
        obtain ⟨i, items, names, hi, hit, hnm, rfl, ⟨n, hn, hRi⟩, rfl⟩ := (hI _ _).1 hst
        clear hst
        simp only [spL, rdN, if_true, show shutP true = 125 from rfl] at hRi
        have hpi := pass_le hi
        have hgi := pass_ge s i
        have hst0 := st (pass s i) hpi
        unfold strS at hst0
        simp -implicitDefEqProofs [wd]
        refine callK_of (ps i hi _) ?_
        simp -implicitDefEqProofs
        refine callK_of (hst0 _) ?_
        cases hS : rdStr s (pass s i) with
        | none =>
          rw [hS] at hRi
          subst hRi
          by_cases hne : items = []
          · subst hne
            obtain rfl : names = [] := by simpa using hnm
            simp -implicitDefEqProofs (maxDischargeDepth := 6) [tJson, encL, encT, encR, tJsonS, tStrS, AC.le_agg, le_ownS, shareL_appX, shareL_strX, shareL_nilX, le_str1, kindP]
          · simp -implicitDefEqProofs (maxDischargeDepth := 6) [hne, hnm, tJson, encL, encT, encR, tJsonS, tStrS, AC.le_agg, le_ownS, shareL_appX, shareL_strX, shareL_nilX, le_str1, kindP]
        | some z =>
          obtain ⟨t, e0⟩ := z
          have hb0 := rdStr_bnd hS
          rw [hS] at hRi
          simp only at hRi
          have he00 : ¬ ((e0 : Int) < 0) := by omega
          have hp0 := pass_le hb0.2.1
          have hg0 := pass_ge s e0
          have q0 := atc s (pass s e0) 58
          have wq : IntKind.i64.wrap ((pass s e0 : Int) + 1) = (pass s e0 + 1 : Nat) := by rw [wrap64 (by omega) (by omega)]; rfl
          simp -implicitDefEqProofs [he00]
          refine callK_of (ps e0 hb0.2.1 _) ?_
          by_cases hne : items = []
          · subst hne
            obtain rfl : names = [] := by simpa using hnm
            simp -implicitDefEqProofs [tJsonS, tStrS, encR, wq, wd]
            intro _
            refine ⟨fun h => ?_, fun h1 h2 => ?_⟩
            · rw [if_neg (fun e => by
                have a1 := q0.1 e
                rcases h with h | h
                · omega
                · exact h a1.2)] at hRi
              simp only at hRi
              subst hRi
              simp (maxDischargeDepth := 6) [tJson, encL, encT, encR, tJsonS, tStrS, AC.le_agg, le_ownS, shareL_appX, shareL_strX, shareL_nilX, le_str1, kindP]
            · rw [if_pos (q0.2 ⟨h1, h2⟩)] at hRi
              simp only at hRi
              have hJi := hJ d0 (pass s e0 + 1) h1
              obtain ⟨⟨x, e⟩, hx⟩ : ∃ z, sj (pass s e0 + 1) = z := ⟨_, rfl⟩
              have he := hsj (pass s e0 + 1) h1
              rw [hx] at hRi he hJi
              have hek := encL_len (m := .no) (r := tJson x)
              rw [tJson_len] at hek
              have htk : (encL .no (tJson x)).take 4 = encL .no (tJson x) := List.take_of_length_le (by omega)
              refine ⟨by unfold maxLen; omega, ?_⟩
              refine callK_of (hJi _) ?_
              simp -implicitDefEqProofs [hek, htk, tJsonS, tStrS, encR, encL, encT]
              refine ⟨fun he0 => ?_, fun he0 => ?_⟩
              · rw [if_pos he0] at hRi
                subst hRi
                simp (maxDischargeDepth := 6) [tJson, encL, encT, encR, tJsonS, tStrS, tJsonS_app, tStrS_app, encR_app, AC.le_agg, le_ownS, shareL_appX, shareL_strX, shareL_nilX, le_str1, kindP]
              · rw [if_neg (by omega)] at hRi
                obtain ⟨e, rfl⟩ : ∃ e' : Nat, e = e' := ⟨e.toNat, by omega⟩
                simp only [Int.toNat_natCast] at hRi
                have he1 : pass s e0 + 1 ≤ e := by rcases he with h | h; omega; exact Int.ofNat_le.1 h.1
                have he2 : e ≤ s.length := by rcases he with h | h; omega; exact Int.ofNat_le.1 h.2
                have hpe := pass_le he2
                have hge := pass_ge s e
                have q1 := atc s (pass s e) 125
                have q2 := atc s (pass s e) 44
                have wp : IntKind.i64.wrap ((pass s e : Int) + 1) = (pass s e + 1 : Nat) := by rw [wrap64 (by omega) (by omega)]; rfl
                have wm : IntKind.i64.wrap ((pass s e : Nat) : Int) = (pass s e : Nat) := wrap64 (by omega) (by omega)
                refine ⟨by unfold maxLen; omega, callK_of (ps e he2 _) ?_⟩
                simp -implicitDefEqProofs [wp, wm]
                intro _
                refine ⟨fun h _ => h, fun h => ?_, fun h1 h2 => ⟨h1, fun h3 => ?_, fun h3 => ?_⟩⟩
                · have n1 : ¬ s[pass s e]? = some 125 := fun e => by
                    have a1 := q1.1 e
                    rcases h with h | h
                    · omega
                    · exact h.2 a1.2
                  have n2 : ¬ s[pass s e]? = some 44 := fun e => by
                    have a1 := q2.1 e
                    rcases h with h | h
                    · omega
                    · exact h.1 a1.2
                  rw [if_neg n1, if_neg n2] at hRi
                  subst hRi
                  simp (maxDischargeDepth := 6) [tJson, encL, encT, encR, tJsonS, tStrS, tJsonS_app, tStrS_app, encR_app, AC.le_agg, le_ownS, shareL_appX, shareL_strX, shareL_nilX, le_str1, kindP]
                · rw [if_pos (q1.2 ⟨h1, h3⟩)] at hRi
                  subst hRi
                  simp (maxDischargeDepth := 6) [tJson, encL, encT, encR, tJsonS, tStrS, tJsonS_app, tStrS_app, encR_app, AC.le_agg, le_ownS, shareL_appX, shareL_strX, shareL_nilX, le_str1, kindP]
                · have h4 : ((s[pass s e]?.getD 0).toNat : Int) = 44 := Decidable.byContradiction fun h => h3 (h2 h)
                  rw [if_neg (fun e => h3 (q1.1 e).2), if_pos (q2.2 ⟨h1, h4⟩)] at hRi
                  obtain ⟨n, rfl⟩ : ∃ n', n = n' + 1 := ⟨n - 1, by omega⟩
                  exact ⟨s.length - (pass s e + 1), by omega, _, St.le_of (by simp) (by simp [St.trunc, look, mapV, mapC, killP]) rfl (by simp [St.trunc, mapC, tJsonS, tStrS, encR, encL, encT]), (hI _ _).2 ⟨pass s e + 1, [x], [t], by omega, by simp; try omega, by simp, rfl, ⟨n, by omega, hRi⟩, rfl⟩⟩
          · simp -implicitDefEqProofs [hne, encJsonS_len, encStrS_len, hnm, wq, wd]
            intro _
            refine ⟨fun h => ?_, fun h1 h2 => ?_⟩
            · rw [if_neg (fun e => by
                have a1 := q0.1 e
                rcases h with h | h
                · omega
                · exact h a1.2)] at hRi
              simp only at hRi
              subst hRi
              simp (maxDischargeDepth := 6) [tJson, encL, encT, encR, tJsonS, tStrS, AC.le_agg, le_ownS, shareL_appX, shareL_strX, shareL_nilX, le_str1, kindP, hne, hnm]
            · rw [if_pos (q0.2 ⟨h1, h2⟩)] at hRi
              simp only at hRi
              have hJi := hJ d0 (pass s e0 + 1) h1
              obtain ⟨⟨x, e⟩, hx⟩ : ∃ z, sj (pass s e0 + 1) = z := ⟨_, rfl⟩
              have he := hsj (pass s e0 + 1) h1
              rw [hx] at hRi he hJi
              have hek := encL_len (m := .no) (r := tJson x)
              rw [tJson_len] at hek
              have htk : (encL .no (tJson x)).take 4 = encL .no (tJson x) := List.take_of_length_le (by omega)
              refine ⟨by unfold maxLen; omega, by omega, ?_⟩
              refine callK_of (hJi _) ?_
              simp -implicitDefEqProofs [hek, htk, tJsonS, tStrS, encR, encL, encT, tJsonS_app, tStrS_app, encR_app, hne, encJsonS_len, hnm]
              refine ⟨fun he0 => ?_, fun he0 => ?_⟩
              · rw [if_pos he0] at hRi
                subst hRi
                simp (maxDischargeDepth := 6) [tJson, encL, encT, encR, tJsonS, tStrS, tJsonS_app, tStrS_app, encR_app, AC.le_agg, le_ownS, shareL_appX, shareL_strX, shareL_nilX, le_str1, kindP, hnm]
              · rw [if_neg (by omega)] at hRi
                obtain ⟨e, rfl⟩ : ∃ e' : Nat, e = e' := ⟨e.toNat, by omega⟩
                simp only [Int.toNat_natCast] at hRi
                have he1 : pass s e0 + 1 ≤ e := by rcases he with h | h; omega; exact Int.ofNat_le.1 h.1
                have he2 : e ≤ s.length := by rcases he with h | h; omega; exact Int.ofNat_le.1 h.2
                have hpe := pass_le he2
                have hge := pass_ge s e
                have q1 := atc s (pass s e) 125
                have q2 := atc s (pass s e) 44
                have wp : IntKind.i64.wrap ((pass s e : Int) + 1) = (pass s e + 1 : Nat) := by rw [wrap64 (by omega) (by omega)]; rfl
                have wm : IntKind.i64.wrap ((pass s e : Nat) : Int) = (pass s e : Nat) := wrap64 (by omega) (by omega)
                refine ⟨by unfold maxLen; omega, by omega, callK_of (ps e he2 _) ?_⟩
                simp -implicitDefEqProofs [wp, wm]
                intro _
                refine ⟨fun h _ => h, fun h => ?_, fun h1 h2 => ⟨h1, fun h3 => ?_, fun h3 => ?_⟩⟩
                · have n1 : ¬ s[pass s e]? = some 125 := fun e => by
                    have a1 := q1.1 e
                    rcases h with h | h
                    · omega
                    · exact h.2 a1.2
                  have n2 : ¬ s[pass s e]? = some 44 := fun e => by
                    have a1 := q2.1 e
                    rcases h with h | h
                    · omega
                    · exact h.1 a1.2
                  rw [if_neg n1, if_neg n2] at hRi
                  subst hRi
                  simp (maxDischargeDepth := 6) [tJson, encL, encT, encR, tJsonS, tStrS, tJsonS_app, tStrS_app, encR_app, AC.le_agg, le_ownS, shareL_appX, shareL_strX, shareL_nilX, le_str1, kindP, hnm]
                · rw [if_pos (q1.2 ⟨h1, h3⟩)] at hRi
                  subst hRi
                  simp (maxDischargeDepth := 6) [tJson, encL, encT, encR, tJsonS, tStrS, tJsonS_app, tStrS_app, encR_app, AC.le_agg, le_ownS, shareL_appX, shareL_strX, shareL_nilX, le_str1, kindP, hnm]
                · have h4 : ((s[pass s e]?.getD 0).toNat : Int) = 44 := Decidable.byContradiction fun h => h3 (h2 h)
                  rw [if_neg (fun e => h3 (q1.1 e).2), if_pos (q2.2 ⟨h1, h4⟩)] at hRi
                  obtain ⟨n, rfl⟩ : ∃ n', n = n' + 1 := ⟨n - 1, by omega⟩
                  exact ⟨s.length - (pass s e + 1), by omega, _, St.le_of (by simp) (by simp [St.trunc, look, mapV, mapC, killP]) rfl (by simp [St.trunc, mapC, tJsonS, tStrS, encR, encL, encT, tJsonS_app, tStrS_app, encR_app, hne, encJsonS_len, hnm]), (hI _ _).2 ⟨pass s e + 1, (items ++ [x]), (names ++ [t]), by omega, by simp; try omega, by simp [hnm], rfl, ⟨n, by omega, hRi⟩, rfl⟩⟩
end Go.Proofs.YthagllbnkbahnaaDoor.Abs
