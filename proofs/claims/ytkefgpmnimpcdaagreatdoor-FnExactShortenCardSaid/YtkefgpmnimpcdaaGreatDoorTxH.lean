/- What an escape is: the reference's. No condition. -/
import Derived.Test.YtkefgpmnimpcdaaGreatDoorTxG
set_option linter.unusedVariables false
set_option linter.unusedSimpArgs false
namespace Go.Proofs.YtkefgpmnimpcdaaGreatDoor.Abs
open Go
set_option maxHeartbeats 2000000
set_option maxRecDepth 100000
theorem runH_le : ∀ (n : Nat) (q : Bs), runH n q ≤ q.length := by
  intro n; induction n with
  | zero => intro q; simp [runH]
  | succ n ih =>
    intro q
    cases q with
    | nil => simp [runH]
    | cons b r =>
      have := ih r
      simp only [runH, List.length_cons]; split <;> omega
theorem byteAt_iff {s : Bs} {k : Nat} {c : UInt8} : s[k]? = some c ↔ k < s.length ∧ ((s[k]?.getD 0).toNat : Int) = c.toNat := by
  constructor
  · intro h; exact ⟨(List.getElem?_eq_some_iff.1 h).1, by rw [h]; rfl⟩
  · rintro ⟨h1, h2⟩
    obtain ⟨d, hd⟩ : ∃ d, s[k]? = some d := ⟨_, List.getElem?_eq_getElem h1⟩
    rw [hd] at h2 ⊢
    exact congrArg some (u8_eq.1 h2)
theorem numS_bound (s : Bs) : -1 ≤ numS s 4 ∧ numS s 4 < 65536 := by
  unfold numS
  split
  · omega
  · cases h : hexN (s.take 4) 0 with
    | none => simp
    | some n =>
      have := hexN_bound (by omega) h
      rw [List.length_take, Nat.min_eq_left (by omega)] at this
      simp only [Option.getD_some]; omega
theorem c_l04Rune (s : Bs) (i : Nat) (hs : s.length ≤ 100000000) (hi : i < s.length) (K) : Ct Tryz.prog 218 [.str s, .int .i64 i] K (.tup [.int .i64 (lRune (s.drop i)).1, .int .i64 ((i + (lRune (s.drop i)).2 : Nat) : Int)]) K := by
  obtain ⟨a, ha⟩ : ∃ a, s[i]? = some a := ⟨_, List.getElem?_eq_getElem hi⟩
  rw [drop_cons ha]
  obtain ⟨p1, hp1⟩ : ∃ p, p = i + 1 := ⟨_, rfl⟩
  have w1 : IntKind.i64.wrap ((i : Int) + 1) = (p1 : Int) := by rw [wrap64 (by omega) (by omega)]; omega
  obtain ⟨p2, hp2⟩ : ∃ p, p = i + 2 := ⟨_, rfl⟩
  have w2 : IntKind.i64.wrap ((i : Int) + 2) = (p2 : Int) := by rw [wrap64 (by omega) (by omega)]; omega
  obtain ⟨p3, hp3⟩ : ∃ p, p = i + 3 := ⟨_, rfl⟩
  have w3 : IntKind.i64.wrap ((i : Int) + 3) = (p3 : Int) := by rw [wrap64 (by omega) (by omega)]; omega
  obtain ⟨p6, hp6⟩ : ∃ p, p = i + 6 := ⟨_, rfl⟩
  have w6 : IntKind.i64.wrap ((i : Int) + 6) = (p6 : Int) := by rw [wrap64 (by omega) (by omega)]; omega
  obtain ⟨p7, hp7⟩ : ∃ p, p = i + 7 := ⟨_, rfl⟩
  have w7 : IntKind.i64.wrap ((i : Int) + 7) = (p7 : Int) := by rw [wrap64 (by omega) (by omega)]; omega
  obtain ⟨p8, hp8⟩ : ∃ p, p = i + 8 := ⟨_, rfl⟩
  have w8 : IntKind.i64.wrap ((i : Int) + 8) = (p8 : Int) := by rw [wrap64 (by omega) (by omega)]; omega
  obtain ⟨p9, hp9⟩ : ∃ p, p = i + 9 := ⟨_, rfl⟩
  have w9 : IntKind.i64.wrap ((i : Int) + 9) = (p9 : Int) := by rw [wrap64 (by omega) (by omega)]; omega
  obtain ⟨p10, hp10⟩ : ∃ p, p = i + 10 := ⟨_, rfl⟩
  have w10 : IntKind.i64.wrap ((i : Int) + 10) = (p10 : Int) := by rw [wrap64 (by omega) (by omega)]; omega
  obtain ⟨p12, hp12⟩ : ∃ p, p = i + 12 := ⟨_, rfl⟩
  have w12 : IntKind.i64.wrap ((i : Int) + 12) = (p12 : Int) := by rw [wrap64 (by omega) (by omega)]; omega
  rcases Nat.lt_or_ge p1 s.length with hlt | hge
  · obtain ⟨b, hb⟩ : ∃ b, s[p1]? = some b := ⟨_, List.getElem?_eq_getElem hlt⟩
    have hbe : s[p1]'hlt = b := (List.getElem?_eq_some_iff.1 hb).2
    rw [← hp1, drop_cons hb, show p1 + 1 = p2 by omega]
    have q1 : ∀ (j k : Nat), k = p2 + j → s[k]? = (s.drop p2)[j]? := fun j k e => by rw [List.getElem?_drop, e]
    have q2 := fun (k e : Nat) (h3 : k ≤ 1000000000) (h1 : k ≤ e) (h2 : e ≤ k + 10) K => c_l04Num s k e (by omega) h3 h1 h2 K
    have q3 : ∀ k j, k = p2 + j → s.drop k = (s.drop p2).drop j := fun k j e => by rw [List.drop_drop, e]
    have q4 : (s.drop p2).length = s.length - p2 := List.length_drop
    generalize hp2t : s.drop p2 = t at *
    generalize hr : lRune (a :: b :: t) = r
    simp only [lRune] at hr
    have cb := fun c : UInt8 => (u8_eq (b := b) (c := c))
    have b34 : (b.toNat : Int) = 34 ↔ b = 34 := u8_eq (c := 34)
    have b92 : (b.toNat : Int) = 92 ↔ b = 92 := u8_eq (c := 92)
    have b47 : (b.toNat : Int) = 47 ↔ b = 47 := u8_eq (c := 47)
    have b98 : (b.toNat : Int) = 98 ↔ b = 98 := u8_eq (c := 98)
    have b116 : (b.toNat : Int) = 116 ↔ b = 116 := u8_eq (c := 116)
    have b110 : (b.toNat : Int) = 110 ↔ b = 110 := u8_eq (c := 110)
    have b102 : (b.toNat : Int) = 102 ↔ b = 102 := u8_eq (c := 102)
    have b114 : (b.toNat : Int) = 114 ↔ b = 114 := u8_eq (c := 114)
    have b117 : (b.toNat : Int) = 117 ↔ b = 117 := u8_eq (c := 117)
    have hbl := b.toNat_lt
    have wb : IntKind.i64.wrap (b.toNat : Int) = b.toNat := wrap64 (by omega) (by omega)
    refine ct_fn { n0 := 10, ex := [19, 21], tk := [15, 20, 82, 91, 116, 119, 120, 128, 131, 133, 160, 162, 164, 175, 177, 178] } Tryz.func218 rfl (by kernel_rfl) (by kernel_rfl) rfl ?_
    by_cases h117 : b = 117
    · subst h117
      rw [if_neg (by decide), if_neg (by decide), if_neg (by decide), if_neg (by decide), if_neg (by decide), if_neg (by decide), if_neg (by simp)] at hr
      have q0 := q1 0 p2 (by omega)
      have hR := runH_spec 7 (t.drop 1)
      have hR7 := hR.2.1
      have q3' := q3 p3 1 (by omega)
      have q4' : (t.drop 1).length = s.length - p3 := by rw [List.length_drop, q4]; omega
      have qr : ∀ e, s[p3 + e]? = (t.drop 1)[e]? := fun e => by rw [List.getElem?_drop]; exact q1 (1 + e) (p3 + e) (by omega)
      have g123 : s[p2]? = some 123 ↔ p2 < s.length ∧ ((s[p2]?.getD 0).toNat : Int) = 123 := byteAt_iff (c := 123)
      simp -implicitDefEqProofs [Tryz.f218, w1, w2, w3, w6, w7, hlt, hb, hbe, eq_false (show ¬ s.length ≤ p1 by omega)]
      refine fun _ => ⟨fun h1 h2 => ?_, fun h1 => ?_⟩
      · have h123 := g123.2 ⟨h1, h2⟩
        rw [q0] at h123
        rw [if_pos h123] at hr
        generalize t.drop 1 = q at *
        generalize hRR : runH 7 q = R at *
        obtain ⟨I, hI⟩ : ∃ I : Nat → St → Prop, ∀ m st, I m st ↔ ∃ (e j : Nat), e = p3 + j ∧ j ≤ R ∧ m = 7 - j ∧
          st = { env := [(0, .str s), (1, .int .i64 i), (4, .int .i64 0), (5, .int .i64 0), (6, .int .i64 e)], loc := [], K := [] :: K } := ⟨_, fun _ _ => Iff.rfl⟩
        refine wC_loopI I 7 ((hI _ _).2 ⟨p3, 0, rfl, by omega, rfl, rfl⟩) (St.le_of (by simp) (by simp) rfl (by simp)) ?_
        intro m st hst
        obtain ⟨e, j, he, hj, rfl, rfl⟩ := (hI _ _).1 hst
        have we : IntKind.i64.wrap ((e : Int) + 1) = (e + 1 : Nat) := by rw [wrap64 (by omega) (by omega)]; omega
        simp -implicitDefEqProofs [w10]
        refine fun _ => ⟨fun h _ => h, callK_still (fun _ => c_l04Digit _ _) ?_⟩
        simp -implicitDefEqProofs [we, w3]
        have qe : s[e]? = q[j]? := by rw [he]; exact qr j
        refine ⟨fun a1 a2 a3 => ?_, fun a1 => ?_⟩
        · have hjR : j < R := by
            refine Classical.byContradiction fun hn => ?_
            have hjR : j = R := by omega
            have h7 : R < 7 := by omega
            obtain ⟨d, hd⟩ : ∃ d, s[e]? = some d := ⟨_, List.getElem?_eq_getElem a1⟩
            rw [hd] at qe a3
            have := hR.2.2 h7 d (by rw [← hjR, ← qe])
            simp only [Option.getD_some] at a3
            omega
          exact ⟨7 - (j + 1), by omega, _, St.le_of (by simp) (by simp [St.trunc, look, mapV, mapC, killP]) rfl (by simp [St.trunc, mapC]), (hI _ _).2 ⟨e + 1, j + 1, by omega, by omega, rfl, rfl⟩⟩
        · have hjR : j = R := by
            refine Classical.byContradiction fun hn => ?_
            have h7 : R ≤ q.length := by
              have := runH_le 7 q
              rw [hRR] at this
              exact this
            obtain ⟨d, hd⟩ : ∃ d, q[j]? = some d := ⟨_, List.getElem?_eq_getElem (by omega)⟩
            have h0 := hR.1 d (List.mem_of_getElem? (i := j) (by rw [List.getElem?_take, if_pos (by omega)]; exact hd))
            have := a1 (by omega) (by omega)
            rw [qe, hd] at this
            simp only [Option.getD_some] at this
            omega
          subst hjR
          have hc2 := fun K => q2 p3 e (by omega) (by omega) (by omega) K
          rw [q3', show e - p3 = j by omega] at hc2
          refine callK_of (hc2 _) ?_
          generalize numS q j = n at *
          simp -implicitDefEqProofs [w3, w9]
          refine fun _ => callK_still (fun _ => c_l02Scalar n _) ?_
          simp -implicitDefEqProofs [we]
          have g125 : t[j + 1]? = some 125 ↔ e < s.length ∧ ((s[e]?.getD 0).toNat : Int) = 125 := by
            rw [← q1 (j + 1) e (by omega)]; exact byteAt_iff (c := 125)
          refine ⟨fun h => ?_, fun h1 h2 h3 h4 h5 => ?_⟩
          · rw [if_pos ?_] at hr
            · subst hr; simp
            · rcases h with (((h | h) | h) | h) | h
              · exact .inl (by omega)
              · exact .inr (.inl (by omega))
              · exact .inr (.inr (.inl fun e2 => by have := (g125.1 e2).1; omega))
              · exact .inr (.inr (.inl fun e2 => h (g125.1 e2).2))
              · exact .inr (.inr (.inr h))
          · rw [if_neg ?_] at hr
            · subst hr; simp; omega
            · rintro (h | h | h | h)
              · omega
              · omega
              · exact h (g125.2 ⟨h3, h4⟩)
              · rw [h5] at h; cases h
      · have hn123 : ¬ s[p2]? = some 123 := fun h => by have := g123.1 h; exact h1 this.1 this.2
        rw [q0] at hn123
        rw [if_neg hn123] at hr
        have hc := fun K => q2 p2 p6 (by omega) (by omega) (by omega) K
        rw [show p6 - p2 = 4 by omega, hp2t] at hc
        have hc2 := fun K => q2 p8 p12 (by omega) (by omega) (by omega) K
        rw [show p12 - p8 = 4 by omega, q3 p8 6 (by omega)] at hc2
        refine callK_of (hc _) ?_
        have hb4 := numS_bound t
        have hb6 := numS_bound (t.drop 6)
        generalize numS t 4 = n at *
        generalize numS (t.drop 6) 4 = n2 at *
        simp -implicitDefEqProofs
        refine ⟨fun h2 => ?_, fun h2 => ?_⟩
        · rw [if_pos h2] at hr; subst hr; simp
        · rw [if_neg (by omega)] at hr
          refine callK_of (c_l01In _ _ _ _) ?_
          simp -implicitDefEqProofs [w7, w6]
          have g92 : t[4]? = some 92 ↔ p6 < s.length ∧ ((s[p6]?.getD 0).toNat : Int) = 92 := by
            rw [← q1 4 p6 (by omega)]; exact byteAt_iff (c := 92)
          have g117 : t[5]? = some 117 ↔ p7 < s.length ∧ ((s[p7]?.getD 0).toNat : Int) = 117 := by
            rw [← q1 5 p7 (by omega)]; exact byteAt_iff (c := 117)
          refine fun _ => ⟨fun _ _ h => by omega, fun _ _ h _ => h, fun a1 a2 a3 a4 a5 => ?_, fun h => ?_⟩
          · rw [if_pos ⟨by simp [inR, a1, a2], g92.2 ⟨by omega, a4⟩, g117.2 ⟨a3, a5⟩⟩] at hr
            rw [w8, w12]
            refine callK_of (hc2 _) ?_
            simp -implicitDefEqProofs
            refine callK_of (c_l01In _ _ _ _) ?_
            have wv : IntKind.i64.wrap (IntKind.i64.wrap (IntKind.i64.wrap (65536 + IntKind.i64.wrap (1024 * IntKind.i64.wrap (n - 55296))) + n2) - 56320) = 65536 + 1024 * (n - 55296) + n2 - 56320 := by
              simp (disch := omega) only [wrap64]
            simp -implicitDefEqProofs [w12, wv]
            refine ⟨fun h => ?_, fun h h' => ?_⟩
            · rw [if_pos (by simp [inR]; omega)] at hr; subst hr; simp
            · rw [if_neg (by simp [inR, h, h'])] at hr; subst hr; simp; omega
          · rw [if_neg (by
              rintro ⟨k1, k2, k3⟩
              simp only [inR, Bool.and_eq_true, decide_eq_true_eq] at k1
              exact h k1.1 k1.2 (g117.1 k3).1 (g92.1 k2).2 (g117.1 k3).2)] at hr
            refine callK_of (c_l02Scalar _ _) ?_
            simp -implicitDefEqProofs [w6]
            refine ⟨fun h => ?_, fun h => ?_⟩
            · rw [if_pos h] at hr; subst hr; simp
            · rw [if_neg (by simp [h])] at hr; subst hr; simp; omega
    · rw [if_pos h117] at hr
      simp -implicitDefEqProofs [Tryz.f218, w1, w2, hlt, hb, hbe, wb, b34, b92, b47, b98, b116, b110, b102, b114, b117, h117, eq_false (show ¬ s.length ≤ p1 by omega)]
      refine fun _ => ?_
      by_cases e34 : b = 34
      · subst e34; rw [if_pos (by decide)] at hr; subst hr; simp; omega
      by_cases e92 : b = 92
      · subst e92; rw [if_pos (by decide)] at hr; subst hr; simp; omega
      by_cases e47 : b = 47
      · subst e47; rw [if_pos (by decide)] at hr; subst hr; simp; omega
      rw [if_neg (by simp [e34, e92, e47])] at hr
      by_cases e98 : b = 98
      · rw [if_pos e98] at hr; subst hr; simp [e34, e92, e47, e98]; omega
      rw [if_neg e98] at hr
      by_cases e116 : b = 116
      · rw [if_pos e116] at hr; subst hr; simp [e34, e92, e47, e98, e116]; omega
      rw [if_neg e116] at hr
      by_cases e110 : b = 110
      · rw [if_pos e110] at hr; subst hr; simp [e34, e92, e47, e98, e116, e110]; omega
      rw [if_neg e110] at hr
      by_cases e102 : b = 102
      · rw [if_pos e102] at hr; subst hr; simp [e34, e92, e47, e98, e116, e110, e102]; omega
      rw [if_neg e102] at hr
      by_cases e114 : b = 114
      · rw [if_pos e114] at hr; subst hr; simp [e34, e92, e47, e98, e116, e110, e102, e114]; omega
      rw [if_neg e114] at hr
      subst hr; simp [e34, e92, e47, e98, e116, e110, e102, e114]
  · rw [drop_nil (by omega)]
    have hlt : ¬ p1 < s.length := by omega
    refine ct_fn { n0 := 10, ex := [19, 21], tk := [15, 20, 82, 91, 116, 119, 120, 128, 131, 133, 160, 162, 164, 175, 177, 178] } Tryz.func218 rfl (by kernel_rfl) (by kernel_rfl) rfl ?_
    simp -implicitDefEqProofs [Tryz.f218, w1, lRune, hge, hlt]
end Go.Proofs.YtkefgpmnimpcdaaGreatDoor.Abs
