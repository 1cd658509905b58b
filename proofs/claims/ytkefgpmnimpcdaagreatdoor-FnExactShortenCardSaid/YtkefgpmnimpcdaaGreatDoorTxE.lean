/- Escapes: the program's functions as contracts. No condition. -/
import Derived.Test.YtkefgpmnimpcdaaGreatDoorTxS
set_option linter.unusedVariables false
set_option linter.unusedSimpArgs false
namespace Go.Proofs.YtkefgpmnimpcdaaGreatDoor.Abs
open Go
set_option maxHeartbeats 1000000
set_option maxRecDepth 100000
theorem hexV_ix (b : UInt8) : (if 65 ≤ b.toNat ∧ b.toNat ≤ 70 then (b.toNat : Int) - 65 + 10 else Lib.indexByte hexS b) = hexV b :=
  u8_all (p := fun b => (if 65 ≤ b.toNat ∧ b.toNat ≤ 70 then (b.toNat : Int) - 65 + 10 else Lib.indexByte hexS b) = hexV b) (by decide) b
theorem hexN_snoc : ∀ {s : Bs} {b : UInt8} {n : Int}, hexN (s ++ [b]) n = (hexN s n).bind fun m => if hexV b < 0 then none else some (16 * m + hexV b) := by
  intro s; induction s with
  | nil => intro b n; simp only [List.nil_append, hexN, Option.bind_some]
  | cons c s ih => intro b n; simp only [List.cons_append, hexN]; split
                   · rfl
                   · exact ih
theorem c_readHex (s : Bs) (hs : s.length ≤ 12) (K) : Ct Tryz.prog 309 [.str s] K (.tup [.int .i64 (rHex s).1, .bool (rHex s).2]) K := by
  generalize hr : rHex s = r
  unfold rHex at hr
  refine ct_fn { n0 := 7, ex := [8, 9], tk := [15, 39] } Tryz.func309 rfl (by kernel_rfl) (by kernel_rfl) rfl ?_
  simp -implicitDefEqProofs [Tryz.f309]
  intro hml
  obtain ⟨I, hI⟩ : ∃ I : Nat → St → Prop, ∀ m st, I m st ↔ ∃ (i : Nat) (n : Int), i ≤ s.length ∧ m = s.length - i ∧ hexN (s.drop i) n = hexN s 0 ∧ 0 ≤ n ∧ n < ((16 ^ i : Nat) : Int) ∧
    st = { env := [(0, .str s), (2, .int .i64 0), (3, .bool false), (4, .int .i64 n), (8, .int .i64 s.length), (9, .int .i64 i)], loc := [], K := [] :: K } := ⟨_, fun _ _ => Iff.rfl⟩
  refine wC_loopI I s.length ((hI _ _).2 ⟨0, 0, by omega, rfl, rfl, by omega, by omega, rfl⟩) (St.le_of (by simp) (by simp) rfl (by simp)) ?_
  intro m st hst
  obtain ⟨i, n, hi, rfl, hn, hn0, hn1, rfl⟩ := (hI _ _).1 hst
  rcases Nat.lt_or_ge i s.length with hlt | hge
  · obtain ⟨b, hx⟩ : ∃ b, s[i]? = some b := ⟨_, List.getElem?_eq_getElem hlt⟩
    have hxe : s[i]'hlt = b := (List.getElem?_eq_some_iff.1 hx).2
    have hb := b.toNat_lt
    have w1 : IntKind.i64.wrap ((i : Int) + 1) = (i + 1 : Nat) := by rw [wrap64 (by omega) (by omega)]; rfl
    have hv := hexV_ix b
    have hv2 := hexV_lt b
    have hp : 16 ^ i ≤ 16 ^ 11 := Nat.pow_le_pow_right (by decide) (by omega)
    have hp2 : 16 ^ (i + 1) = 16 ^ i * 16 := Nat.pow_succ _ _
    have ei := c_IndexByte hexS b.toNat hb
    rw [UInt8.ofNat_toNat] at ei
    unfold hexS at ei hv
    rw [drop_cons hx] at hn
    simp only [hexN] at hn
    have nxt : 0 ≤ hexV b → ∀ (l : List (Nat × AC)) (k : Int), k = hexV b → roundK I (s.length - i) 0 { env := [(0, .str s), (2, .int .i64 0), (3, .bool false), (4, .int .i64 (IntKind.i64.wrap (IntKind.i64.wrap (16 * n) + k))), (8, .int .i64 s.length), (9, .int .i64 ((i : Int) + 1)), (5, .int .i64 i), (6, .int .i64 k)], loc := l, K := [] :: K } := by
      rintro h0 l k rfl
      rw [if_neg (by omega)] at hn
      have w2 : IntKind.i64.wrap (IntKind.i64.wrap (16 * n) + hexV b) = 16 * n + hexV b := by
        rw [wrap64 (n := 16 * n) (by omega) (by omega), wrap64 (by omega) (by omega)]
      rw [w2]
      exact ⟨s.length - (i + 1), by omega, _, St.le_of (by simp) (by simp [St.trunc, look, mapV, mapC, killP]) rfl (by simp [St.trunc, mapC]), (hI _ _).2 ⟨i + 1, 16 * n + hexV b, by omega, rfl, hn, by omega, by omega, rfl⟩⟩
    have bad : hexV b < 0 → r = (0, false) := by
      intro h
      rw [if_pos h] at hn
      rw [← hr, ← hn]
    simp -implicitDefEqProofs [hlt, hxe, hx, w1]
    refine callK_of (ei _) ?_
    simp -implicitDefEqProofs [hlt, hxe, hx, w1]
    refine ⟨fun h1 h2 => ?_, fun h => ?_⟩
    · rw [if_pos ⟨by omega, by omega⟩] at hv
      have e : IntKind.i64.wrap (IntKind.i64.wrap (IntKind.u8.wrap ((b.toNat : Int) - 65)) + 10) = hexV b := by
        rw [← hv, wrap8 (by omega) (by omega), wrap64 (n := (b.toNat : Int) - 65) (by omega) (by omega), wrap64 (by omega) (by omega)]
      rw [e]
      exact ⟨fun h => by rw [bad h]; simp, fun h => nxt h _ _ rfl⟩
    · rw [if_neg (by omega)] at hv
      rw [hv]
      exact ⟨fun h => by rw [bad h]; simp, fun h => nxt h _ _ rfl⟩
  · have e : i = s.length := by omega
    subst e
    rw [drop_nil (Nat.le_refl _)] at hn
    simp only [hexN] at hn
    rw [← hn] at hr
    simp only at hr
    simp -implicitDefEqProofs [← hr]
theorem c_fourHex (s : Bs) (K) : Ct Tryz.prog 311 [.str s] K (.tup [.int .i64 (rFour s).1, .bool (rFour s).2]) K := by
  generalize hr : rFour s = r
  unfold rFour at hr
  refine ct_fn { n0 := 4, ex := [], tk := [] } Tryz.func311 rfl (by kernel_rfl) (by kernel_rfl) rfl ?_
  simp -implicitDefEqProofs [Tryz.f311]
  refine fun hml => ⟨fun h => ?_, fun h => ?_⟩
  · rw [if_pos (by omega)] at hr
    simp [← hr]
  · rw [if_neg (by omega)] at hr
    refine ⟨by omega, ?_⟩
    refine callK_of (c_readHex (s.take 4) (by rw [List.length_take]; omega) _) ?_
    rw [hr]
    simp -implicitDefEqProofs

theorem rHex_nonneg (s : Bs) : 0 ≤ (rHex s).1 := by
  unfold rHex
  cases h : hexN s 0 with
  | none => simp
  | some n => exact (hexN_bound (by omega) h).1
theorem rHex_lt (s : Bs) (h8 : s.length ≤ 8) : (rHex s).1 < 4294967296 := by
  unfold rHex
  cases h : hexN s 0 with
  | none => simp
  | some n =>
    have := (hexN_bound (by omega) h).2
    have hp : (16 : Int) ^ s.length ≤ 4294967296 := by
      have h1 : 16 ^ s.length ≤ 16 ^ 8 := Nat.pow_le_pow_right (by decide) h8
      have h2 : ((16 ^ s.length : Nat) : Int) = (16 : Int) ^ s.length := by rw [Int.natCast_pow]; rfl
      rw [← h2]; omega
    simp only
    omega
theorem rFour_bound (s : Bs) : 0 ≤ (rFour s).1 ∧ (rFour s).1 < 4294967296 := by
  unfold rFour
  split
  · simp
  · exact ⟨rHex_nonneg _, rHex_lt _ (by rw [List.length_take]; omega)⟩
theorem c_readUnicode (s : Bs) (K) : Ct Tryz.prog 293 [.str s] K (.tup [.int .i64 (rUni s).1, .int .i64 (rUni s).2.1, .bool (rUni s).2.2]) K := by
  generalize hr : rUni s = r
  unfold rUni at hr
  refine ct_fn { n0 := 11, ex := [], tk := [12, 14, 16, 22, 25, 31, 35, 42, 45, 49, 53, 58, 71] } Tryz.func293 rfl (by kernel_rfl) (by kernel_rfl) rfl ?_
  simp -implicitDefEqProofs [Tryz.f293]
  refine callK_of (c_HasPrefix s [123] _) ?_
  cases hp : ([123] : Bs).isPrefixOf s with
  | true =>
    rw [hp, if_pos rfl] at hr
    simp -implicitDefEqProofs
    refine callK_of (c_IndexByte s 125 (by omega) _) ?_
    have e125 : UInt8.ofNat 125 = 125 := rfl
    rw [e125]
    rcases indexByte_cases s 125 with ⟨e1, _⟩ | ⟨p, e1, e2, e3⟩
    · rw [e1] at hr ⊢
      simp -implicitDefEqProofs
      refine callK_of (c_in _ _ _ _) ?_
      have e4 : inR (-1) 2 7 = false := rfl
      rw [e4, if_pos rfl] at hr
      simp -implicitDefEqProofs [e4, ← hr]
    · rw [e1] at hr ⊢
      have hpl := (List.getElem?_eq_some_iff.1 e2).1
      simp -implicitDefEqProofs
      refine callK_of (c_in _ _ _ _) ?_
      cases hin : inR (p : Int) 2 7 with
      | false =>
        rw [hin, if_pos rfl] at hr
        simp -implicitDefEqProofs [← hr]
      | true =>
        rw [hin, if_neg (by simp)] at hr
        simp only [inR, Bool.and_eq_true, decide_eq_true_eq] at hin
        have w1 : IntKind.i64.wrap ((p : Int) + 1) = (p : Int) + 1 := wrap64 (by omega) (by omega)
        simp -implicitDefEqProofs [w1]
        refine ⟨⟨by omega, by omega⟩, callK_of (c_readHex _ (by rw [List.length_tail, List.length_take]; omega) _) ?_⟩
        rw [Int.toNat_natCast, List.drop_one] at hr
        generalize rHex (s.take p).tail = q at *
        simp -implicitDefEqProofs [w1]
        refine callK_still (fun _ => c_isScalar _ _) ?_
        simp -implicitDefEqProofs [← hr]
  | false =>
    rw [hp, if_neg (by simp)] at hr
    simp -implicitDefEqProofs
    refine callK_of (c_fourHex s _) ?_
    obtain ⟨b0, b1⟩ := rFour_bound s
    have hf := four_ok (s := s)
    generalize rFour s = q at *
    simp -implicitDefEqProofs
    refine callK_still (fun _ => c_in _ _ _ _) ?_
    simp -implicitDefEqProofs
    refine ⟨fun h => ?_, fun h1 h2 => ?_⟩
    · rw [if_pos h] at hr
      refine callK_still (fun _ => c_isScalar _ _) ?_
      simp -implicitDefEqProofs [← hr]
    · obtain ⟨f1, f2, f3, f4, _⟩ := hf h1
      rw [if_neg (by simp [h1, h2])] at hr
      refine ⟨by omega, callK_of (c_HasPrefix (s.drop 4) [92, 117] _) ?_⟩
      cases hp2 : ([92, 117] : Bs).isPrefixOf (s.drop 4) with
      | false =>
        rw [hp2, if_pos rfl] at hr
        simp -implicitDefEqProofs [← hr]
      | true =>
        rw [hp2, if_neg (by simp)] at hr
        have h6 : 6 ≤ s.length := by
          have := (pre2.1 hp2).2
          have := (List.getElem?_eq_some_iff.1 this).1
          rw [List.length_drop] at this; omega
        simp -implicitDefEqProofs
        refine ⟨by omega, callK_of (c_fourHex (s.drop 6) _) ?_⟩
        obtain ⟨d0, d1⟩ := rFour_bound (s.drop 6)
        generalize rFour (s.drop 6) = q2 at *
        simp -implicitDefEqProofs
        refine callK_still (fun _ => c_in _ _ _ _) ?_
        simp only [inR, Bool.and_eq_true, decide_eq_true_eq] at h2
        have w1 : IntKind.i64.wrap (IntKind.i64.wrap (IntKind.i64.wrap (65536 + IntKind.i64.wrap (1024 * IntKind.i64.wrap (q.1 - 55296))) + q2.1) - 56320) = 65536 + 1024 * (q.1 - 55296) + q2.1 - 56320 := by
          simp (disch := omega) only [wrap64]
        simp -implicitDefEqProofs [← hr, w1]
theorem runeText_len4 (n : Int) : (runeText n).length ≤ 4 := by
  rw [runeText_len]; split <;> (try split) <;> (try split) <;> (try split) <;> omega
theorem rUni_size (s : Bs) : 0 ≤ (rUni s).2.1 ∧ (rUni s).2.1 ≤ 10 := by
  unfold rUni
  split
  · split
    · simp
    · next h => simp [inR] at h; simp only; omega
  · split
    · simp
    · split <;> simp
theorem c_readEscape (s : Bs) (K) : Ct Tryz.prog 269 [.str s] K (.tup [.str (rEsc s).1, .int .i64 (rEsc s).2.1, .bool (rEsc s).2.2]) K := by
  generalize hr : rEsc s = r
  cases s with
  | nil =>
    simp only [rEsc] at hr
    refine ct_fn { n0 := 9, ex := [], tk := [17, 22, 25, 31] } Tryz.func269 rfl (by kernel_rfl) (by kernel_rfl) rfl ?_
    simp -implicitDefEqProofs [Tryz.f269, ← hr]
  | cons b t =>
    simp only [rEsc] at hr
    have hb := b.toNat_lt
    have c117 : (b.toNat : Int) = 117 ↔ b = 117 := u8_eq (c := 117)
    have c47 : (b.toNat : Int) = 47 ↔ b = 47 := u8_eq (c := 47)
    have ei := c_IndexByte escOut b.toNat hb
    rw [UInt8.ofNat_toNat] at ei
    have hle : Lib.indexByte escOut b < 7 := by
      rcases indexByte_cases escOut b with ⟨e, _⟩ | ⟨p, e, h, _⟩
      · omega
      · have := (List.getElem?_eq_some_iff.1 h).1
        simp only [escOut, List.length_cons, List.length_nil] at this; omega
    unfold escIn at hr
    refine ct_fn { n0 := 9, ex := [], tk := [17, 22, 25, 31] } Tryz.func269 rfl (by kernel_rfl) (by kernel_rfl) rfl ?_
    simp -implicitDefEqProofs [Tryz.f269, c117, c47]
    refine ⟨fun h => ?_, fun h => ⟨fun h2 => ?_, fun h2 => ?_⟩⟩
    · rw [if_pos h] at hr
      refine ⟨by omega, callK_of (c_readUnicode t _) ?_⟩
      have hsz := rUni_size t
      generalize rUni t = q at *
      have w1 : IntKind.i64.wrap (q.2.1 + 1) = q.2.1 + 1 := wrap64 (by omega) (by omega)
      simp -implicitDefEqProofs
      refine callK_of (c_RuneTextI _ _) ?_
      simp -implicitDefEqProofs [w1, ← hr]
    · rw [if_neg h, if_pos h2] at hr
      simp [← hr]
    · rw [if_neg h, if_neg h2] at hr
      unfold escOut at ei hr hle
      refine callK_of (ei _) ?_
      generalize Lib.indexByte [34, 92, 98, 116, 110, 102, 114] b = k at *
      simp -implicitDefEqProofs
      refine ⟨fun h3 => ?_, fun h3 => ?_⟩
      · rw [if_pos h3] at hr
        simp [← hr]
      · rw [if_neg (by omega)] at hr
        obtain ⟨m, rfl⟩ : ∃ m : Nat, k = m := ⟨k.toNat, by omega⟩
        have w1 : IntKind.i64.wrap ((m : Int) + 1) = (m : Int) + 1 := wrap64 (by omega) (by omega)
        have e1 : ((m : Int) + 1).toNat = m + 1 := by omega
        simp -implicitDefEqProofs [w1, e1, ← hr]
        omega

theorem rEsc_len4 (s : Bs) : (rEsc s).1.length ≤ 4 := by
  cases s with
  | nil => simp [rEsc]
  | cons b t =>
    simp only [rEsc]
    split
    · exact runeText_len4 _
    · split
      · simp
      · split
        · simp
        · rw [List.length_drop, List.length_take]; omega
theorem c_Unescaped (s : Bs) (hs : s.length ≤ 1000000000) (K) : Ct Tryz.prog 229 [.str s] K (.tup [.str (unesc s).1, .bool (unesc s).2]) K := by
  generalize hr : unesc s = r
  unfold unesc at hr
  refine ct_fn { n0 := 10, ex := [], tk := [12, 29, 64, 80] } Tryz.func229 rfl (by kernel_rfl) (by kernel_rfl) rfl ?_
  simp -implicitDefEqProofs [Tryz.f229]
  intro hml
  refine callK_of (c_in _ _ _ _) ?_
  have hq : shutQ s = (inR (s.length : Int) 2 1300 && decide (s[0]? = some 34) && decide (s[s.length - 1]? = some 34)) := by
    unfold shutQ inR
    rw [show decide ((2 : Int) ≤ s.length) = decide (2 ≤ s.length) from decide_eq_decide.2 (by omega), show decide ((s.length : Int) ≤ 1300) = decide (s.length ≤ 1300) from decide_eq_decide.2 (by omega)]
  cases hin : inR (s.length : Int) 2 1300 with
  | false =>
    rw [hin] at hq
    rw [if_pos (.inl (by simpa using hq))] at hr
    simp -implicitDefEqProofs
    refine callK_still (r := .bool false) (fun h => absurd h (by simp)) ?_
    simp -implicitDefEqProofs [← hr]
  | true =>
    rw [hin] at hq
    simp only [inR, Bool.and_eq_true, decide_eq_true_eq] at hin
    have hlt0 : 0 < s.length := by omega
    obtain ⟨b, hb⟩ : ∃ b, s[0]? = some b := ⟨_, List.getElem?_eq_getElem hlt0⟩
    obtain ⟨c, hc⟩ : ∃ c, s[s.length - 1]? = some c := ⟨_, List.getElem?_eq_getElem (by omega)⟩
    have hbe : s[0]'hlt0 = b := (List.getElem?_eq_some_iff.1 hb).2
    have b34 : (b.toNat : Int) = 34 ↔ b = 34 := u8_eq (c := 34)
    have c34 : (c.toNat : Int) = 34 ↔ c = 34 := u8_eq (c := 34)
    have w1 : IntKind.i64.wrap ((s.length : Int) - 1) = ((s.length - 1 : Nat) : Int) := by rw [wrap64 (by omega) (by omega)]; omega
    rw [hb, hc] at hq
    simp -implicitDefEqProofs [hlt0, hbe, hb, hc, w1, b34, c34]
    refine fun _ => ⟨fun _ => by omega, callK_still (fun _ => c_TextOk s _) ?_⟩
    have nz : (s.take (s.length - 1)).drop 1 = (s.take (s.length - 1)).tail := List.drop_one
    rw [nz] at hr
    have hil : ((s.take (s.length - 1)).tail).length = s.length - 2 := by rw [List.length_tail, List.length_take]; omega
    by_cases hb3 : b = 34
    · by_cases hc3 : c = 34
      · rw [hb3, hc3] at hq
        cases ht : textOk s with
        | false =>
          rw [ht, if_pos (.inr rfl)] at hr
          simp -implicitDefEqProofs [hb3, hc3, ← hr]
        | true =>
          rw [ht, if_neg (by simp [hq])] at hr
          generalize hT : unI (s.length - 2) ((s.take (s.length - 1)).tail) [] = T at hr
          rw [← hil] at hT
          simp -implicitDefEqProofs [hb3, hc3, hlt0, hb, hbe, w1]
          refine fun _ => ⟨by omega, ?_⟩
          generalize (s.take (s.length - 1)).tail = inner at *
          obtain ⟨I, hI⟩ : ∃ I : Nat → St → Prop, ∀ m st, I m st ↔ ∃ (rest out : Bs), m = rest.length ∧ unI rest.length rest out = T ∧ out.length + 4 * rest.length ≤ 6000 ∧
            st = { env := [(0, .str s), (2, .str []), (3, .bool false), (4, .str rest), (5, .str out)], loc := [], K := [] :: K } := ⟨_, fun _ _ => Iff.rfl⟩
          refine wC_loopI I inner.length ((hI _ _).2 ⟨inner, [], rfl, hT, by simp; omega, rfl⟩) (St.le_of (by simp) (by simp) rfl (by simp)) ?_
          intro m st hst
          obtain ⟨rest, out, rfl, hu, hb2, rfl⟩ := (hI _ _).1 hst
          cases rest with
          | nil =>
            simp only [List.length_nil, unI] at hu
            rw [← hu] at hr
            simp only at hr
            simp -implicitDefEqProofs
            refine fun _ => ⟨fun h => ?_, fun h => ?_⟩
            · rw [if_pos (by omega)] at hr; simp [← hr]
            · rw [if_neg (by omega)] at hr; simp [← hr]
          | cons d t =>
            have hdl := d.toNat_lt
            have d34 : (d.toNat : Int) = 34 ↔ d = 34 := u8_eq (c := 34)
            have d9 : (d.toNat : Int) = 9 ↔ d = 9 := u8_eq (c := 9)
            have d92 : (d.toNat : Int) = 92 ↔ d = 92 := u8_eq (c := 92)
            simp only [List.length_cons] at hu hb2
            simp only [unI] at hu
            have bad : T = none → r = ([], false) := by intro e; rw [e] at hr; exact hr.symm
            have hlen4 := rEsc_len4 t
            obtain ⟨k1, k2⟩ := esc_eq t
            simp -implicitDefEqProofs [d34, d9, d92]
            refine ⟨fun h => ?_, fun h34 h9 => ⟨fun h92 => ⟨by omega, callK_of (c_readEscape t _) ?_⟩, fun h92 => ⟨by omega, by unfold maxLen; omega, by omega, ?_⟩⟩⟩
            · rw [if_pos (by rcases h with h | ⟨h, h'⟩; exact .inl h; exact .inr ⟨by omega, h'⟩)] at hu
              simp [bad hu.symm]
            · rw [if_neg (by rintro (e | ⟨e, e'⟩); exact h34 e; exact e' (h9 (by omega))), if_pos h92] at hu
              generalize rEsc t = q at *
              cases hok : q.2.2 with
              | false =>
                rw [hok] at hu
                simp -implicitDefEqProofs [bad hu.symm]
              | true =>
                obtain ⟨_, _, _, g4, g5, _⟩ := k1 hok
                rw [hok, if_pos rfl] at hu
                have w2 : IntKind.i64.wrap (1 + q.2.1) = 1 + q.2.1 := wrap64 (by omega) (by omega)
                obtain ⟨k, hk⟩ : ∃ k : Nat, q.2.1 = k := ⟨q.2.1.toNat, by omega⟩
                rw [hk] at hu g5 w2
                rw [Int.toNat_natCast] at hu
                have w3 : (1 + (k : Int)).toNat = k + 1 := by omega
                simp -implicitDefEqProofs [hk, w2, w3]
                refine ⟨by unfold maxLen; omega, ⟨by omega, by omega⟩, ?_⟩
                exact ⟨(t.drop k).length, by rw [List.length_drop]; omega, _, St.le_of (by simp) (by simp [St.trunc, look, mapV, mapC, killP]) rfl (by simp [St.trunc, mapC]), (hI _ _).2 ⟨t.drop k, out ++ q.1, rfl, by rw [← hu]; exact unI_fuel _ _ _ _ (Nat.le_refl _) (by rw [List.length_drop]; omega), by rw [List.length_append, List.length_drop]; omega, rfl⟩⟩
            · rw [if_neg (by rintro (e | ⟨e, e'⟩); exact h34 e; exact e' (h9 (by omega))), if_neg h92] at hu
              exact ⟨t.length, by omega, _, St.le_of (by simp) (by simp [St.trunc, look, mapV, mapC, killP]) rfl (by simp [St.trunc, mapC]), (hI _ _).2 ⟨t, out ++ [d], rfl, hu, by rw [List.length_append]; simp only [List.length_cons, List.length_nil]; omega, rfl⟩⟩
      · rw [if_pos (.inl (by rw [hq]; simp [hc3]))] at hr
        simp -implicitDefEqProofs [hb3, hc3, ← hr]
    · rw [if_pos (.inl (by rw [hq]; simp [hb3]))] at hr
      simp -implicitDefEqProofs [hb3, ← hr]
end Go.Proofs.YtkefgpmnimpcdaaGreatDoor.Abs
