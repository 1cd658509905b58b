/- PRINTED by txjw.py. Json: what is written: contracts. No condition. -/
import Derived.Test.YtkpdlbidadcdjaaDoorTxJ
set_option linter.unusedVariables false
set_option linter.unusedSimpArgs false
namespace Go.Proofs.YtkpdlbidadcdjaaDoor.Abs
open Go
set_option maxHeartbeats 1000000
set_option maxRecDepth 100000
@[simp] theorem byteCells_eq (l : List UInt8) : byteCells l = encB l := rfl
@[simp] theorem shareL_encB (l : Bs) : shareL (encB l) = encB l := by
  induction l with
  | nil => rfl
  | cons b l ih => simp [ih]
theorem jOk_kids {k : Int} {t : Bs} {items : List DJson} {names : List Bs} {d : Int} (hk : k = 6 ∨ k = 7) (h : jOk ⟨k, t, items, names⟩ d = true) : ∀ x ∈ items, jOk x (d - 1) = true := by
  intro x hx
  rw [jOk, if_pos hk] at h
  simp only [Bool.and_eq_true] at h
  obtain ⟨i, hi⟩ := List.mem_iff_getElem?.1 hx
  exact jOkS_get h.2.2 hi
theorem jOk_names {t : Bs} {items : List DJson} {names : List Bs} {d : Int} (h : jOk ⟨7, t, items, names⟩ d = true) : names.length = items.length := by
  simp [jOk, jHead] at h; exact h.1.1.1
theorem c_writeJson_rec : ∀ N : Nat, ∀ (j : DJson) (d : Int) (out : Bs) (K : List (List (List AC))) (hok : jOk j d = true) (hb : (out ++ sayJ j).length ≤ 100000000000) (hsz : szL (tJson j) ≤ 2000000) (hN : SizeOf.sizeOf j < N),
    Ct Tryd.prog 21 [.sl (.of 5) out.length (encB out), .agg (encL .no (tJson j))] K (.sl (.of 5) (out ++ sayJ j).length (encB (out ++ sayJ j))) K := by
  intro N
  induction N with
  | zero => intros; omega
  | succ N ih =>
  intro j d out K hok hb hsz hN
  obtain ⟨k, t, items, names⟩ := j
  have hsz' := hsz
  simp only [tJson, szL, szT, tJsonS_len, tStrS_len] at hsz'
  rcases (by omega : k = 1 ∨ k = 2 ∨ k = 3 ∨ k = 4 ∨ k = 5 ∨ k = 6 ∨ k = 7 ∨ (k ≠ 1 ∧ k ≠ 2 ∧ k ≠ 3 ∧ k ≠ 4 ∧ k ≠ 5 ∧ k ≠ 6 ∧ k ≠ 7)) with rfl | rfl | rfl | rfl | rfl | rfl | rfl | ⟨n1, n2, n3, n4, n5, n6, n7⟩
  · simp [sayJ] at hb
    refine ct_fn { n0 := 9, ex := [10, 44, 45, 46], tk := [0, 13, 14, 17, 18, 21, 22, 25, 28, 31, 34, 35, 39, 41, 42, 53, 54, 55, 59, 65, 66, 67, 68, 69, 70, 72, 74, 76, 77] } Tryd.func21 rfl (by kernel_rfl) (by kernel_rfl) rfl ?_
    simp -implicitDefEqProofs [Tryd.f21, tJson, encL_app, encL, encT]
    exact ⟨by unfold maxLen; omega, by omega, by simp [sayJ]⟩
  · simp [sayJ] at hb
    refine ct_fn { n0 := 9, ex := [10, 44, 45, 46], tk := [0, 13, 14, 17, 18, 21, 22, 25, 28, 31, 34, 35, 39, 41, 42, 53, 54, 55, 59, 65, 66, 67, 68, 69, 70, 72, 74, 76, 77] } Tryd.func21 rfl (by kernel_rfl) (by kernel_rfl) rfl ?_
    simp -implicitDefEqProofs [Tryd.f21, tJson, encL_app, encL, encT]
    exact ⟨by unfold maxLen; omega, by omega, by simp [sayJ]⟩
  · simp [sayJ] at hb
    refine ct_fn { n0 := 9, ex := [10, 44, 45, 46], tk := [0, 13, 14, 17, 18, 21, 22, 25, 28, 31, 34, 35, 39, 41, 42, 53, 54, 55, 59, 65, 66, 67, 68, 69, 70, 72, 74, 76, 77] } Tryd.func21 rfl (by kernel_rfl) (by kernel_rfl) rfl ?_
    simp -implicitDefEqProofs [Tryd.f21, tJson, encL_app, encL, encT]
    exact ⟨by unfold maxLen; omega, by omega, by simp [sayJ]⟩
  · simp [sayJ] at hb
    refine ct_fn { n0 := 9, ex := [10, 44, 45, 46], tk := [0, 13, 14, 17, 18, 21, 22, 25, 28, 31, 34, 35, 39, 41, 42, 53, 54, 55, 59, 65, 66, 67, 68, 69, 70, 72, 74, 76, 77] } Tryd.func21 rfl (by kernel_rfl) (by kernel_rfl) rfl ?_
    simp -implicitDefEqProofs [Tryd.f21, tJson, encL_app, encL, encT]
    exact ⟨by unfold maxLen; omega, by omega, by simp [sayJ]⟩
  · simp [sayJ] at hb
    refine ct_fn { n0 := 9, ex := [10, 44, 45, 46], tk := [0, 13, 14, 17, 18, 21, 22, 25, 28, 31, 34, 35, 39, 41, 42, 53, 54, 55, 59, 65, 66, 67, 68, 69, 70, 72, 74, 76, 77] } Tryd.func21 rfl (by kernel_rfl) (by kernel_rfl) rfl ?_
    simp -implicitDefEqProofs [Tryd.f21, tJson, encL_app, encL, encT]
    refine callK_of (c_Escaped t _) ?_
    simp -implicitDefEqProofs [sayJ]
    exact ⟨by unfold maxLen; omega, by omega⟩
  · have hkids := jOk_kids (by simp) hok
    generalize hr : out ++ sayJ ⟨6, t, items, names⟩ = r at *
    simp [sayJ, jOpen, jShut] at hr
    refine ct_fn { n0 := 9, ex := [10, 44, 45, 46], tk := [0, 13, 14, 17, 18, 21, 22, 25, 28, 31, 34, 35, 39, 41, 42, 53, 54, 55, 59, 65, 66, 67, 68, 69, 70, 72, 74, 76, 77] } Tryd.func21 rfl (by kernel_rfl) (by kernel_rfl) rfl ?_
    simp -implicitDefEqProofs [Tryd.f21, tJson, encL_app, encL, encT]
    have hlr : r.length ≤ 100000000000 := by omega
    have hl0 : ∀ i, (out ++ 91 :: sayJS 6 (items.take i) names true).length + 1 ≤ r.length := by
      intro i
      have := sayJS_take_len (k := 6) items names true i
      rw [← hr]
      simp only [List.length_append, List.length_cons, List.length_nil]
      omega
    have h0 := hl0 0
    simp [sayJS] at h0
    refine ⟨by unfold maxLen; omega, by omega, fun hmi => ?_⟩
    obtain ⟨I, hI⟩ : ∃ I : Nat → St → Prop, ∀ m s, I m s ↔ ∃ i, i ≤ items.length ∧ m = items.length - i ∧
      s = { env := [(0, .sl (.of 5) (out ++ 91 :: sayJS 6 (items.take i) names true).length (encB (out ++ 91 :: sayJS 6 (items.take i) names true))), (1, .agg [.int .i64 6, .str t, .sl .no items.length (encR .no (tJsonS items)), .sl .no names.length (encR .no (tStrS names))]), (3, .ptr 0 0 0), (4, .sl .nil 0 []), (5, .int .u8 91), (6, .int .u8 93), (44, .sl .no items.length (encR .no (tJsonS items))), (45, .int .i64 items.length), (46, .int .i64 i)], loc := [],
            K := [[.int .i64 6, .str t, .sl .no items.length (encR .no (tJsonS items)), .sl .no names.length (encR .no (tStrS names))]] :: K } := ⟨_, fun _ _ => Iff.rfl⟩
    refine wC_loopI I items.length ((hI _ _).2 ⟨0, by omega, rfl, rfl⟩) (St.le_of (by simp) (by simp [sayJS]) rfl rfl) ?_
    intro m s hs
    obtain ⟨i, hi, rfl, rfl⟩ := (hI _ _).1 hs
    rcases Nat.lt_or_ge i items.length with hlt | hge
    · obtain ⟨x, hx⟩ : ∃ x, items[i]? = some x := ⟨_, List.getElem?_eq_getElem hlt⟩
      have ea := atJson (m := .no) hx
      have hsx := szJson_get hx
      have hek := encL_len (m := .no) (r := tJson x)
      rw [tJson_len] at hek
      have htk : (encL .no (tJson x)).take 4 = encL .no (tJson x) := List.take_of_length_le (by omega)
      have w2 : IntKind.i64.wrap ((i : Int) + 1) = (i + 1 : Nat) := by rw [wrap64 (by omega) (by omega)]; rfl
      have h3 := hl0 (i + 1)
      have hF := sayJS_take (k := 6) (names := names) (b := true) hx
      obtain ⟨E, hE⟩ : ∃ E, out ++ 91 :: sayJS 6 (items.take i) names true = E := ⟨_, rfl⟩
      obtain ⟨F, hF'⟩ : ∃ F, out ++ 91 :: sayJS 6 (items.take (i + 1)) names true = F := ⟨_, rfl⟩
      rw [hE]
      rw [hF'] at h3
      have hEF : F = E ++ ((if i = 0 ∧ true = true then [] else [44]) ++ (if (6 : Int) = 7 then escaped (names[i]?.getD []) ++ [58] else []) ++ sayJ x) := by
        rw [← hF', hF, ← hE]; simp
      have hc := fun (O : Bs) (hO : O ++ sayJ x = F) (K : List (List (List AC))) => hO ▸ ih x (d - 1) O K (hkids x (List.mem_of_getElem? hx)) (by rw [hO]; omega) (by omega) (by have := List.sizeOf_lt_of_mem (List.mem_of_getElem? hx); simp at hN; omega)
      have hn : I (items.length - (i + 1)) { env := [(0, .sl (.of 5) (F).length (encB (F))), (1, .agg [.int .i64 6, .str t, .sl .no items.length (encR .no (tJsonS items)), .sl .no names.length (encR .no (tStrS names))]), (3, .ptr 0 0 0), (4, .sl .nil 0 []), (5, .int .u8 91), (6, .int .u8 93), (44, .sl .no items.length (encR .no (tJsonS items))), (45, .int .i64 items.length), (46, .int .i64 (i + 1 : Nat))], loc := [], K := [[.int .i64 6, .str t, .sl .no items.length (encR .no (tJsonS items)), .sl .no names.length (encR .no (tStrS names))]] :: K } := (hI _ _).2 ⟨i + 1, by omega, rfl, by rw [hF']⟩
      clear hE hF hF'
      rcases Nat.eq_zero_or_pos i with e0 | e0
      · simp [e0] at hEF
        have hEl := congrArg List.length hEF
        simp at hEl
        have e1 : (0 < i) = False := by simp; omega
        simp -implicitDefEqProofs [hlt, e1, ea, w2, encJsonS_len, encStrS_len, hek, htk]
        have hc' := hc (E) (by simp [hEF]) 
        clear hc
        try simp only [List.length_append, List.length_cons, List.length_nil, Nat.zero_add, encB_app, encB_cons, encB_nil] at hc'
        try simp only [List.append_assoc, List.cons_append, List.nil_append, UInt8.reduceToNat] at hc'
        refine callK_of (hc' _) ?_
        clear hc'
        simp -implicitDefEqProofs [w2]
        exact ⟨items.length - (i + 1), by omega, _, St.le_of (by simp) (by simp [St.trunc, look, mapV, mapC, killP]) rfl (by simp [St.trunc, mapC]), hn⟩
      · have e1 : ¬i = 0 := by omega
        simp [e1] at hEF
        have hEl := congrArg List.length hEF
        simp at hEl
        simp -implicitDefEqProofs [hlt, e0, ea, w2, encJsonS_len, encStrS_len, hek, htk]
        refine ⟨by unfold maxLen; omega, by omega, ?_⟩
        have hc' := hc (E ++ [44]) (by simp [hEF]) 
        clear hc
        try simp only [List.length_append, List.length_cons, List.length_nil, Nat.zero_add, encB_app, encB_cons, encB_nil] at hc'
        try simp only [List.append_assoc, List.cons_append, List.nil_append, UInt8.reduceToNat] at hc'
        refine callK_of (hc' _) ?_
        clear hc'
        simp -implicitDefEqProofs [w2]
        exact ⟨items.length - (i + 1), by omega, _, St.le_of (by simp) (by simp [St.trunc, look, mapV, mapC, killP]) rfl (by simp [St.trunc, mapC]), hn⟩
    · have e : i = items.length := by omega
      subst e
      rw [List.take_of_length_le (Nat.le_refl _)] at *
      have h3 := hl0 items.length
      rw [List.take_of_length_le (Nat.le_refl _)] at h3
      simp at h3
      simp -implicitDefEqProofs
      refine ⟨by unfold maxLen; omega, by omega, ?_⟩
      rw [← hr]; simp [Nat.add_assoc]
  · have hkids := jOk_kids (by simp) hok
    have hnl := jOk_names hok
    generalize hr : out ++ sayJ ⟨7, t, items, names⟩ = r at *
    simp [sayJ, jOpen, jShut] at hr
    refine ct_fn { n0 := 9, ex := [10, 44, 45, 46], tk := [0, 13, 14, 17, 18, 21, 22, 25, 28, 31, 34, 35, 39, 41, 42, 53, 54, 55, 59, 65, 66, 67, 68, 69, 70, 72, 74, 76, 77] } Tryd.func21 rfl (by kernel_rfl) (by kernel_rfl) rfl ?_
    simp -implicitDefEqProofs [Tryd.f21, tJson, encL_app, encL, encT]
    have hlr : r.length ≤ 100000000000 := by omega
    have hl0 : ∀ i, (out ++ 123 :: sayJS 7 (items.take i) names true).length + 1 ≤ r.length := by
      intro i
      have := sayJS_take_len (k := 7) items names true i
      rw [← hr]
      simp only [List.length_append, List.length_cons, List.length_nil]
      omega
    have h0 := hl0 0
    simp [sayJS] at h0
    refine ⟨by unfold maxLen; omega, by omega, fun hmi => ?_⟩
    obtain ⟨I, hI⟩ : ∃ I : Nat → St → Prop, ∀ m s, I m s ↔ ∃ i, i ≤ items.length ∧ m = items.length - i ∧
      s = { env := [(0, .sl (.of 5) (out ++ 123 :: sayJS 7 (items.take i) names true).length (encB (out ++ 123 :: sayJS 7 (items.take i) names true))), (1, .agg [.int .i64 7, .str t, .sl .no items.length (encR .no (tJsonS items)), .sl .no names.length (encR .no (tStrS names))]), (3, .ptr 0 0 0), (4, .sl .nil 0 []), (5, .int .u8 123), (6, .int .u8 125), (44, .sl .no items.length (encR .no (tJsonS items))), (45, .int .i64 items.length), (46, .int .i64 i)], loc := [],
            K := [[.int .i64 7, .str t, .sl .no items.length (encR .no (tJsonS items)), .sl .no names.length (encR .no (tStrS names))]] :: K } := ⟨_, fun _ _ => Iff.rfl⟩
    refine wC_loopI I items.length ((hI _ _).2 ⟨0, by omega, rfl, rfl⟩) (St.le_of (by simp) (by simp [sayJS]) rfl rfl) ?_
    intro m s hs
    obtain ⟨i, hi, rfl, rfl⟩ := (hI _ _).1 hs
    rcases Nat.lt_or_ge i items.length with hlt | hge
    · obtain ⟨x, hx⟩ : ∃ x, items[i]? = some x := ⟨_, List.getElem?_eq_getElem hlt⟩
      have ea := atJson (m := .no) hx
      have hsx := szJson_get hx
      have hek := encL_len (m := .no) (r := tJson x)
      rw [tJson_len] at hek
      have htk : (encL .no (tJson x)).take 4 = encL .no (tJson x) := List.take_of_length_le (by omega)
      have w2 : IntKind.i64.wrap ((i : Int) + 1) = (i + 1 : Nat) := by rw [wrap64 (by omega) (by omega)]; rfl
      obtain ⟨y, hy⟩ : ∃ y, names[i]? = some y := ⟨_, List.getElem?_eq_getElem (by omega)⟩
      have eb := atStr (m := .no) hy
      have hsy := szStr_get hy
      have hlt2 : i < names.length := by omega
      simp only [Nat.mul_one] at eb
      have h3 := hl0 (i + 1)
      have hF := sayJS_take (k := 7) (names := names) (b := true) hx
      obtain ⟨E, hE⟩ : ∃ E, out ++ 123 :: sayJS 7 (items.take i) names true = E := ⟨_, rfl⟩
      obtain ⟨F, hF'⟩ : ∃ F, out ++ 123 :: sayJS 7 (items.take (i + 1)) names true = F := ⟨_, rfl⟩
      rw [hE]
      rw [hF'] at h3
      have hEF : F = E ++ ((if i = 0 ∧ true = true then [] else [44]) ++ (if (7 : Int) = 7 then escaped (names[i]?.getD []) ++ [58] else []) ++ sayJ x) := by
        rw [← hF', hF, ← hE]; simp
      have hc := fun (O : Bs) (hO : O ++ sayJ x = F) (K : List (List (List AC))) => hO ▸ ih x (d - 1) O K (hkids x (List.mem_of_getElem? hx)) (by rw [hO]; omega) (by omega) (by have := List.sizeOf_lt_of_mem (List.mem_of_getElem? hx); simp at hN; omega)
      have hn : I (items.length - (i + 1)) { env := [(0, .sl (.of 5) (F).length (encB (F))), (1, .agg [.int .i64 7, .str t, .sl .no items.length (encR .no (tJsonS items)), .sl .no names.length (encR .no (tStrS names))]), (3, .ptr 0 0 0), (4, .sl .nil 0 []), (5, .int .u8 123), (6, .int .u8 125), (44, .sl .no items.length (encR .no (tJsonS items))), (45, .int .i64 items.length), (46, .int .i64 (i + 1 : Nat))], loc := [], K := [[.int .i64 7, .str t, .sl .no items.length (encR .no (tJsonS items)), .sl .no names.length (encR .no (tStrS names))]] :: K } := (hI _ _).2 ⟨i + 1, by omega, rfl, by rw [hF']⟩
      clear hE hF hF'
      rcases Nat.eq_zero_or_pos i with e0 | e0
      · rw [hy] at hEF; simp [e0] at hEF
        have hEl := congrArg List.length hEF
        simp at hEl
        have e1 : (0 < i) = False := by simp; omega
        simp -implicitDefEqProofs [hlt, e1, ea, hlt2, eb, encL, encT, w2, encJsonS_len, encStrS_len, hek, htk]
        refine callK_of (c_Escaped y _) ?_
        simp -implicitDefEqProofs [hlt, ea, w2, encJsonS_len, encStrS_len, hek, htk]
        refine ⟨by unfold maxLen; omega, by omega, ?_⟩
        try refine ⟨by unfold maxLen; omega, by omega, ?_⟩
        have hc' := hc (E ++ escaped y ++ [58]) (by simp [hEF]) 
        clear hc
        try simp only [List.length_append, List.length_cons, List.length_nil, Nat.zero_add, encB_app, encB_cons, encB_nil] at hc'
        try simp only [List.append_assoc, List.cons_append, List.nil_append, UInt8.reduceToNat] at hc'
        refine callK_of (hc' _) ?_
        clear hc'
        simp -implicitDefEqProofs [w2]
        exact ⟨items.length - (i + 1), by omega, _, St.le_of (by simp) (by simp [St.trunc, look, mapV, mapC, killP]) rfl (by simp [St.trunc, mapC]), hn⟩
      · have e1 : ¬i = 0 := by omega
        rw [hy] at hEF; simp [e1] at hEF
        have hEl := congrArg List.length hEF
        simp at hEl
        simp -implicitDefEqProofs [hlt, e0, ea, hlt2, eb, encL, encT, w2, encJsonS_len, encStrS_len, hek, htk]
        refine ⟨by unfold maxLen; omega, by omega, ?_⟩
        refine callK_of (c_Escaped y _) ?_
        simp -implicitDefEqProofs [hlt, ea, w2, encJsonS_len, encStrS_len, hek, htk]
        refine ⟨by unfold maxLen; omega, by omega, ?_⟩
        try refine ⟨by unfold maxLen; omega, by omega, ?_⟩
        have hc' := hc (E ++ [44] ++ escaped y ++ [58]) (by simp [hEF]) 
        clear hc
        try simp only [List.length_append, List.length_cons, List.length_nil, Nat.zero_add, encB_app, encB_cons, encB_nil] at hc'
        try simp only [List.append_assoc, List.cons_append, List.nil_append, UInt8.reduceToNat] at hc'
        refine callK_of (hc' _) ?_
        clear hc'
        simp -implicitDefEqProofs [w2]
        exact ⟨items.length - (i + 1), by omega, _, St.le_of (by simp) (by simp [St.trunc, look, mapV, mapC, killP]) rfl (by simp [St.trunc, mapC]), hn⟩
    · have e : i = items.length := by omega
      subst e
      rw [List.take_of_length_le (Nat.le_refl _)] at *
      have h3 := hl0 items.length
      rw [List.take_of_length_le (Nat.le_refl _)] at h3
      simp at h3
      simp -implicitDefEqProofs
      refine ⟨by unfold maxLen; omega, by omega, ?_⟩
      rw [← hr]; simp [Nat.add_assoc]
  · simp [jOk, jHead, n1, n2, n3, n4, n5, n6, n7] at hok
theorem c_writeJson (j : DJson) (d : Int) (out : Bs) (K : List (List (List AC))) (hok : jOk j d = true) (hb : (out ++ sayJ j).length ≤ 100000000000) (hsz : szL (tJson j) ≤ 2000000) :
    Ct Tryd.prog 21 [.sl (.of 5) out.length (encB out), .agg (encL .no (tJson j))] K (.sl (.of 5) (out ++ sayJ j).length (encB (out ++ sayJ j))) K := c_writeJson_rec _ j d out K hok hb hsz (Nat.lt_succ_self _)
theorem c_writeJsonN (j : DJson) (d : Int) (K : List (List (List AC))) (hok : jOk j d = true) (hsz : szL (tJson j) ≤ 2000000) :
    Ct Tryd.prog 21 [.sl .nil 0 [], .agg (encL .no (tJson j))] K (.sl (.of 5) (sayJ j).length (encB (sayJ j))) K := by
  have ih := c_writeJson
  have hl := sayJ_len j
  obtain ⟨k, t, items, names⟩ := j
  have hsz' := hsz
  simp only [tJson, szL, szT, tJsonS_len, tStrS_len] at hsz'
  rcases (by omega : k = 1 ∨ k = 2 ∨ k = 3 ∨ k = 4 ∨ k = 5 ∨ k = 6 ∨ k = 7 ∨ (k ≠ 1 ∧ k ≠ 2 ∧ k ≠ 3 ∧ k ≠ 4 ∧ k ≠ 5 ∧ k ≠ 6 ∧ k ≠ 7)) with rfl | rfl | rfl | rfl | rfl | rfl | rfl | ⟨n1, n2, n3, n4, n5, n6, n7⟩
  · simp [sayJ] at hl
    refine ct_fn { n0 := 9, ex := [10, 44, 45, 46], tk := [0, 13, 14, 17, 18, 21, 22, 25, 28, 31, 34, 35, 39, 41, 42, 53, 54, 55, 59, 65, 66, 67, 68, 69, 70, 72, 74, 76, 77] } Tryd.func21 rfl (by kernel_rfl) (by kernel_rfl) rfl ?_
    simp -implicitDefEqProofs [Tryd.f21, tJson, encL_app, encL, encT]
    exact ⟨by unfold maxLen; omega, by simp [sayJ]⟩
  · simp [sayJ] at hl
    refine ct_fn { n0 := 9, ex := [10, 44, 45, 46], tk := [0, 13, 14, 17, 18, 21, 22, 25, 28, 31, 34, 35, 39, 41, 42, 53, 54, 55, 59, 65, 66, 67, 68, 69, 70, 72, 74, 76, 77] } Tryd.func21 rfl (by kernel_rfl) (by kernel_rfl) rfl ?_
    simp -implicitDefEqProofs [Tryd.f21, tJson, encL_app, encL, encT]
    exact ⟨by unfold maxLen; omega, by simp [sayJ]⟩
  · simp [sayJ] at hl
    refine ct_fn { n0 := 9, ex := [10, 44, 45, 46], tk := [0, 13, 14, 17, 18, 21, 22, 25, 28, 31, 34, 35, 39, 41, 42, 53, 54, 55, 59, 65, 66, 67, 68, 69, 70, 72, 74, 76, 77] } Tryd.func21 rfl (by kernel_rfl) (by kernel_rfl) rfl ?_
    simp -implicitDefEqProofs [Tryd.f21, tJson, encL_app, encL, encT]
    exact ⟨by unfold maxLen; omega, by simp [sayJ]⟩
  · simp [sayJ] at hl
    refine ct_fn { n0 := 9, ex := [10, 44, 45, 46], tk := [0, 13, 14, 17, 18, 21, 22, 25, 28, 31, 34, 35, 39, 41, 42, 53, 54, 55, 59, 65, 66, 67, 68, 69, 70, 72, 74, 76, 77] } Tryd.func21 rfl (by kernel_rfl) (by kernel_rfl) rfl ?_
    simp -implicitDefEqProofs [Tryd.f21, tJson, encL_app, encL, encT]
    exact ⟨by unfold maxLen; omega, by omega, by simp [sayJ]⟩
  · simp [sayJ] at hl
    refine ct_fn { n0 := 9, ex := [10, 44, 45, 46], tk := [0, 13, 14, 17, 18, 21, 22, 25, 28, 31, 34, 35, 39, 41, 42, 53, 54, 55, 59, 65, 66, 67, 68, 69, 70, 72, 74, 76, 77] } Tryd.func21 rfl (by kernel_rfl) (by kernel_rfl) rfl ?_
    simp -implicitDefEqProofs [Tryd.f21, tJson, encL_app, encL, encT]
    refine callK_of (c_Escaped t _) ?_
    simp -implicitDefEqProofs [sayJ]
    exact ⟨by unfold maxLen; omega, by omega⟩
  · have hkids := jOk_kids (by simp) hok
    generalize hr : sayJ ⟨6, t, items, names⟩ = r at *
    simp [sayJ, jOpen, jShut] at hr
    refine ct_fn { n0 := 9, ex := [10, 44, 45, 46], tk := [0, 13, 14, 17, 18, 21, 22, 25, 28, 31, 34, 35, 39, 41, 42, 53, 54, 55, 59, 65, 66, 67, 68, 69, 70, 72, 74, 76, 77] } Tryd.func21 rfl (by kernel_rfl) (by kernel_rfl) rfl ?_
    simp -implicitDefEqProofs [Tryd.f21, tJson, encL_app, encL, encT]
    have hlr : r.length ≤ 100000000000 := by omega
    have hl0 : ∀ i, (91 :: sayJS 6 (items.take i) names true).length + 1 ≤ r.length := by
      intro i
      have := sayJS_take_len (k := 6) items names true i
      rw [← hr]
      simp only [List.length_append, List.length_cons, List.length_nil]
      omega
    have h0 := hl0 0
    simp [sayJS] at h0
    refine ⟨by unfold maxLen; omega, fun hmi => ?_⟩
    obtain ⟨I, hI⟩ : ∃ I : Nat → St → Prop, ∀ m s, I m s ↔ ∃ i, i ≤ items.length ∧ m = items.length - i ∧
      s = { env := [(0, .sl (.of 5) (91 :: sayJS 6 (items.take i) names true).length (encB (91 :: sayJS 6 (items.take i) names true))), (1, .agg [.int .i64 6, .str t, .sl .no items.length (encR .no (tJsonS items)), .sl .no names.length (encR .no (tStrS names))]), (3, .ptr 0 0 0), (4, .sl .nil 0 []), (5, .int .u8 91), (6, .int .u8 93), (44, .sl .no items.length (encR .no (tJsonS items))), (45, .int .i64 items.length), (46, .int .i64 i)], loc := [],
            K := [[.int .i64 6, .str t, .sl .no items.length (encR .no (tJsonS items)), .sl .no names.length (encR .no (tStrS names))]] :: K } := ⟨_, fun _ _ => Iff.rfl⟩
    refine wC_loopI I items.length ((hI _ _).2 ⟨0, by omega, rfl, rfl⟩) (St.le_of (by simp) (by simp [sayJS]) rfl rfl) ?_
    intro m s hs
    obtain ⟨i, hi, rfl, rfl⟩ := (hI _ _).1 hs
    rcases Nat.lt_or_ge i items.length with hlt | hge
    · obtain ⟨x, hx⟩ : ∃ x, items[i]? = some x := ⟨_, List.getElem?_eq_getElem hlt⟩
      have ea := atJson (m := .no) hx
      have hsx := szJson_get hx
      have hek := encL_len (m := .no) (r := tJson x)
      rw [tJson_len] at hek
      have htk : (encL .no (tJson x)).take 4 = encL .no (tJson x) := List.take_of_length_le (by omega)
      have w2 : IntKind.i64.wrap ((i : Int) + 1) = (i + 1 : Nat) := by rw [wrap64 (by omega) (by omega)]; rfl
      have h3 := hl0 (i + 1)
      have hF := sayJS_take (k := 6) (names := names) (b := true) hx
      obtain ⟨E, hE⟩ : ∃ E, 91 :: sayJS 6 (items.take i) names true = E := ⟨_, rfl⟩
      obtain ⟨F, hF'⟩ : ∃ F, 91 :: sayJS 6 (items.take (i + 1)) names true = F := ⟨_, rfl⟩
      rw [hE]
      rw [hF'] at h3
      have hEF : F = E ++ ((if i = 0 ∧ true = true then [] else [44]) ++ (if (6 : Int) = 7 then escaped (names[i]?.getD []) ++ [58] else []) ++ sayJ x) := by
        rw [← hF', hF, ← hE]; simp
      have hc := fun (O : Bs) (hO : O ++ sayJ x = F) (K : List (List (List AC))) => hO ▸ ih x (d - 1) O K (hkids x (List.mem_of_getElem? hx)) (by rw [hO]; omega) (by omega)
      have hn : I (items.length - (i + 1)) { env := [(0, .sl (.of 5) (F).length (encB (F))), (1, .agg [.int .i64 6, .str t, .sl .no items.length (encR .no (tJsonS items)), .sl .no names.length (encR .no (tStrS names))]), (3, .ptr 0 0 0), (4, .sl .nil 0 []), (5, .int .u8 91), (6, .int .u8 93), (44, .sl .no items.length (encR .no (tJsonS items))), (45, .int .i64 items.length), (46, .int .i64 (i + 1 : Nat))], loc := [], K := [[.int .i64 6, .str t, .sl .no items.length (encR .no (tJsonS items)), .sl .no names.length (encR .no (tStrS names))]] :: K } := (hI _ _).2 ⟨i + 1, by omega, rfl, by rw [hF']⟩
      clear hE hF hF'
      rcases Nat.eq_zero_or_pos i with e0 | e0
      · simp [e0] at hEF
        have hEl := congrArg List.length hEF
        simp at hEl
        have e1 : (0 < i) = False := by simp; omega
        simp -implicitDefEqProofs [hlt, e1, ea, w2, encJsonS_len, encStrS_len, hek, htk]
        have hc' := hc (E) (by simp [hEF]) 
        clear hc
        try simp only [List.length_append, List.length_cons, List.length_nil, Nat.zero_add, encB_app, encB_cons, encB_nil] at hc'
        try simp only [List.append_assoc, List.cons_append, List.nil_append, UInt8.reduceToNat] at hc'
        refine callK_of (hc' _) ?_
        clear hc'
        simp -implicitDefEqProofs [w2]
        exact ⟨items.length - (i + 1), by omega, _, St.le_of (by simp) (by simp [St.trunc, look, mapV, mapC, killP]) rfl (by simp [St.trunc, mapC]), hn⟩
      · have e1 : ¬i = 0 := by omega
        simp [e1] at hEF
        have hEl := congrArg List.length hEF
        simp at hEl
        simp -implicitDefEqProofs [hlt, e0, ea, w2, encJsonS_len, encStrS_len, hek, htk]
        refine ⟨by unfold maxLen; omega, by omega, ?_⟩
        have hc' := hc (E ++ [44]) (by simp [hEF]) 
        clear hc
        try simp only [List.length_append, List.length_cons, List.length_nil, Nat.zero_add, encB_app, encB_cons, encB_nil] at hc'
        try simp only [List.append_assoc, List.cons_append, List.nil_append, UInt8.reduceToNat] at hc'
        refine callK_of (hc' _) ?_
        clear hc'
        simp -implicitDefEqProofs [w2]
        exact ⟨items.length - (i + 1), by omega, _, St.le_of (by simp) (by simp [St.trunc, look, mapV, mapC, killP]) rfl (by simp [St.trunc, mapC]), hn⟩
    · have e : i = items.length := by omega
      subst e
      rw [List.take_of_length_le (Nat.le_refl _)] at *
      have h3 := hl0 items.length
      rw [List.take_of_length_le (Nat.le_refl _)] at h3
      simp at h3
      simp -implicitDefEqProofs
      refine ⟨by unfold maxLen; omega, by omega, ?_⟩
      rw [← hr]; simp [Nat.add_assoc]
  · have hkids := jOk_kids (by simp) hok
    have hnl := jOk_names hok
    generalize hr : sayJ ⟨7, t, items, names⟩ = r at *
    simp [sayJ, jOpen, jShut] at hr
    refine ct_fn { n0 := 9, ex := [10, 44, 45, 46], tk := [0, 13, 14, 17, 18, 21, 22, 25, 28, 31, 34, 35, 39, 41, 42, 53, 54, 55, 59, 65, 66, 67, 68, 69, 70, 72, 74, 76, 77] } Tryd.func21 rfl (by kernel_rfl) (by kernel_rfl) rfl ?_
    simp -implicitDefEqProofs [Tryd.f21, tJson, encL_app, encL, encT]
    have hlr : r.length ≤ 100000000000 := by omega
    have hl0 : ∀ i, (123 :: sayJS 7 (items.take i) names true).length + 1 ≤ r.length := by
      intro i
      have := sayJS_take_len (k := 7) items names true i
      rw [← hr]
      simp only [List.length_append, List.length_cons, List.length_nil]
      omega
    have h0 := hl0 0
    simp [sayJS] at h0
    refine ⟨by unfold maxLen; omega, fun hmi => ?_⟩
    obtain ⟨I, hI⟩ : ∃ I : Nat → St → Prop, ∀ m s, I m s ↔ ∃ i, i ≤ items.length ∧ m = items.length - i ∧
      s = { env := [(0, .sl (.of 5) (123 :: sayJS 7 (items.take i) names true).length (encB (123 :: sayJS 7 (items.take i) names true))), (1, .agg [.int .i64 7, .str t, .sl .no items.length (encR .no (tJsonS items)), .sl .no names.length (encR .no (tStrS names))]), (3, .ptr 0 0 0), (4, .sl .nil 0 []), (5, .int .u8 123), (6, .int .u8 125), (44, .sl .no items.length (encR .no (tJsonS items))), (45, .int .i64 items.length), (46, .int .i64 i)], loc := [],
            K := [[.int .i64 7, .str t, .sl .no items.length (encR .no (tJsonS items)), .sl .no names.length (encR .no (tStrS names))]] :: K } := ⟨_, fun _ _ => Iff.rfl⟩
    refine wC_loopI I items.length ((hI _ _).2 ⟨0, by omega, rfl, rfl⟩) (St.le_of (by simp) (by simp [sayJS]) rfl rfl) ?_
    intro m s hs
    obtain ⟨i, hi, rfl, rfl⟩ := (hI _ _).1 hs
    rcases Nat.lt_or_ge i items.length with hlt | hge
    · obtain ⟨x, hx⟩ : ∃ x, items[i]? = some x := ⟨_, List.getElem?_eq_getElem hlt⟩
      have ea := atJson (m := .no) hx
      have hsx := szJson_get hx
      have hek := encL_len (m := .no) (r := tJson x)
      rw [tJson_len] at hek
      have htk : (encL .no (tJson x)).take 4 = encL .no (tJson x) := List.take_of_length_le (by omega)
      have w2 : IntKind.i64.wrap ((i : Int) + 1) = (i + 1 : Nat) := by rw [wrap64 (by omega) (by omega)]; rfl
      obtain ⟨y, hy⟩ : ∃ y, names[i]? = some y := ⟨_, List.getElem?_eq_getElem (by omega)⟩
      have eb := atStr (m := .no) hy
      have hsy := szStr_get hy
      have hlt2 : i < names.length := by omega
      simp only [Nat.mul_one] at eb
      have h3 := hl0 (i + 1)
      have hF := sayJS_take (k := 7) (names := names) (b := true) hx
      obtain ⟨E, hE⟩ : ∃ E, 123 :: sayJS 7 (items.take i) names true = E := ⟨_, rfl⟩
      obtain ⟨F, hF'⟩ : ∃ F, 123 :: sayJS 7 (items.take (i + 1)) names true = F := ⟨_, rfl⟩
      rw [hE]
      rw [hF'] at h3
      have hEF : F = E ++ ((if i = 0 ∧ true = true then [] else [44]) ++ (if (7 : Int) = 7 then escaped (names[i]?.getD []) ++ [58] else []) ++ sayJ x) := by
        rw [← hF', hF, ← hE]; simp
      have hc := fun (O : Bs) (hO : O ++ sayJ x = F) (K : List (List (List AC))) => hO ▸ ih x (d - 1) O K (hkids x (List.mem_of_getElem? hx)) (by rw [hO]; omega) (by omega)
      have hn : I (items.length - (i + 1)) { env := [(0, .sl (.of 5) (F).length (encB (F))), (1, .agg [.int .i64 7, .str t, .sl .no items.length (encR .no (tJsonS items)), .sl .no names.length (encR .no (tStrS names))]), (3, .ptr 0 0 0), (4, .sl .nil 0 []), (5, .int .u8 123), (6, .int .u8 125), (44, .sl .no items.length (encR .no (tJsonS items))), (45, .int .i64 items.length), (46, .int .i64 (i + 1 : Nat))], loc := [], K := [[.int .i64 7, .str t, .sl .no items.length (encR .no (tJsonS items)), .sl .no names.length (encR .no (tStrS names))]] :: K } := (hI _ _).2 ⟨i + 1, by omega, rfl, by rw [hF']⟩
      clear hE hF hF'
      rcases Nat.eq_zero_or_pos i with e0 | e0
      · rw [hy] at hEF; simp [e0] at hEF
        have hEl := congrArg List.length hEF
        simp at hEl
        have e1 : (0 < i) = False := by simp; omega
        simp -implicitDefEqProofs [hlt, e1, ea, hlt2, eb, encL, encT, w2, encJsonS_len, encStrS_len, hek, htk]
        refine callK_of (c_Escaped y _) ?_
        simp -implicitDefEqProofs [hlt, ea, w2, encJsonS_len, encStrS_len, hek, htk]
        refine ⟨by unfold maxLen; omega, by omega, ?_⟩
        try refine ⟨by unfold maxLen; omega, by omega, ?_⟩
        have hc' := hc (E ++ escaped y ++ [58]) (by simp [hEF]) 
        clear hc
        try simp only [List.length_append, List.length_cons, List.length_nil, Nat.zero_add, encB_app, encB_cons, encB_nil] at hc'
        try simp only [List.append_assoc, List.cons_append, List.nil_append, UInt8.reduceToNat] at hc'
        refine callK_of (hc' _) ?_
        clear hc'
        simp -implicitDefEqProofs [w2]
        exact ⟨items.length - (i + 1), by omega, _, St.le_of (by simp) (by simp [St.trunc, look, mapV, mapC, killP]) rfl (by simp [St.trunc, mapC]), hn⟩
      · have e1 : ¬i = 0 := by omega
        rw [hy] at hEF; simp [e1] at hEF
        have hEl := congrArg List.length hEF
        simp at hEl
        simp -implicitDefEqProofs [hlt, e0, ea, hlt2, eb, encL, encT, w2, encJsonS_len, encStrS_len, hek, htk]
        refine ⟨by unfold maxLen; omega, by omega, ?_⟩
        refine callK_of (c_Escaped y _) ?_
        simp -implicitDefEqProofs [hlt, ea, w2, encJsonS_len, encStrS_len, hek, htk]
        refine ⟨by unfold maxLen; omega, by omega, ?_⟩
        try refine ⟨by unfold maxLen; omega, by omega, ?_⟩
        have hc' := hc (E ++ [44] ++ escaped y ++ [58]) (by simp [hEF]) 
        clear hc
        try simp only [List.length_append, List.length_cons, List.length_nil, Nat.zero_add, encB_app, encB_cons, encB_nil] at hc'
        try simp only [List.append_assoc, List.cons_append, List.nil_append, UInt8.reduceToNat] at hc'
        refine callK_of (hc' _) ?_
        clear hc'
        simp -implicitDefEqProofs [w2]
        exact ⟨items.length - (i + 1), by omega, _, St.le_of (by simp) (by simp [St.trunc, look, mapV, mapC, killP]) rfl (by simp [St.trunc, mapC]), hn⟩
    · have e : i = items.length := by omega
      subst e
      rw [List.take_of_length_le (Nat.le_refl _)] at *
      have h3 := hl0 items.length
      rw [List.take_of_length_le (Nat.le_refl _)] at h3
      simp at h3
      simp -implicitDefEqProofs
      refine ⟨by unfold maxLen; omega, by omega, ?_⟩
      rw [← hr]; simp [Nat.add_assoc]
  · simp [jOk, jHead, n1, n2, n3, n4, n5, n6, n7] at hok
theorem c_l22Say_rec : ∀ N : Nat, ∀ (j : DJson) (d : Int) (out : Bs) (K : List (List (List AC))) (hok : jOk j d = true) (hb : (out ++ sayJ j).length ≤ 100000000000) (hsz : szL (tJson j) ≤ 2000000) (hN : SizeOf.sizeOf j < N),
    Ct Tryd.prog 17 [.sl (.of 5) out.length (encB out), .agg (encL .no (tJson j))] K (.sl (.of 5) (out ++ sayJ j).length (encB (out ++ sayJ j))) K := by
  intro N
  induction N with
  | zero => intros; omega
  | succ N ih =>
  intro j d out K hok hb hsz hN
  obtain ⟨k, t, items, names⟩ := j
  have hsz' := hsz
  simp only [tJson, szL, szT, tJsonS_len, tStrS_len] at hsz'
  rcases (by omega : k = 1 ∨ k = 2 ∨ k = 3 ∨ k = 4 ∨ k = 5 ∨ k = 6 ∨ k = 7 ∨ (k ≠ 1 ∧ k ≠ 2 ∧ k ≠ 3 ∧ k ≠ 4 ∧ k ≠ 5 ∧ k ≠ 6 ∧ k ≠ 7)) with rfl | rfl | rfl | rfl | rfl | rfl | rfl | ⟨n1, n2, n3, n4, n5, n6, n7⟩
  · simp [sayJ] at hb
    refine ct_fn { n0 := 8, ex := [9], tk := [0, 12, 13, 16, 17, 20, 21, 24, 27, 30, 33, 34, 38, 40, 41, 51, 52, 53, 57, 63, 64, 65, 66, 67, 73, 74, 76, 77] } Tryd.func17 rfl (by kernel_rfl) (by kernel_rfl) rfl ?_
    simp -implicitDefEqProofs [Tryd.f17, tJson, encL_app, encL, encT]
    exact ⟨by unfold maxLen; omega, by omega, by simp [sayJ]⟩
  · simp [sayJ] at hb
    refine ct_fn { n0 := 8, ex := [9], tk := [0, 12, 13, 16, 17, 20, 21, 24, 27, 30, 33, 34, 38, 40, 41, 51, 52, 53, 57, 63, 64, 65, 66, 67, 73, 74, 76, 77] } Tryd.func17 rfl (by kernel_rfl) (by kernel_rfl) rfl ?_
    simp -implicitDefEqProofs [Tryd.f17, tJson, encL_app, encL, encT]
    exact ⟨by unfold maxLen; omega, by omega, by simp [sayJ]⟩
  · simp [sayJ] at hb
    refine ct_fn { n0 := 8, ex := [9], tk := [0, 12, 13, 16, 17, 20, 21, 24, 27, 30, 33, 34, 38, 40, 41, 51, 52, 53, 57, 63, 64, 65, 66, 67, 73, 74, 76, 77] } Tryd.func17 rfl (by kernel_rfl) (by kernel_rfl) rfl ?_
    simp -implicitDefEqProofs [Tryd.f17, tJson, encL_app, encL, encT]
    exact ⟨by unfold maxLen; omega, by omega, by simp [sayJ]⟩
  · simp [sayJ] at hb
    refine ct_fn { n0 := 8, ex := [9], tk := [0, 12, 13, 16, 17, 20, 21, 24, 27, 30, 33, 34, 38, 40, 41, 51, 52, 53, 57, 63, 64, 65, 66, 67, 73, 74, 76, 77] } Tryd.func17 rfl (by kernel_rfl) (by kernel_rfl) rfl ?_
    simp -implicitDefEqProofs [Tryd.f17, tJson, encL_app, encL, encT]
    exact ⟨by unfold maxLen; omega, by omega, by simp [sayJ]⟩
  · simp [sayJ] at hb
    refine ct_fn { n0 := 8, ex := [9], tk := [0, 12, 13, 16, 17, 20, 21, 24, 27, 30, 33, 34, 38, 40, 41, 51, 52, 53, 57, 63, 64, 65, 66, 67, 73, 74, 76, 77] } Tryd.func17 rfl (by kernel_rfl) (by kernel_rfl) rfl ?_
    simp -implicitDefEqProofs [Tryd.f17, tJson, encL_app, encL, encT]
    refine callK_of (c_EscapedS t (by omega) _) ?_
    simp -implicitDefEqProofs [sayJ]
    exact ⟨by unfold maxLen; omega, by omega⟩
  · have hkids := jOk_kids (by simp) hok
    generalize hr : out ++ sayJ ⟨6, t, items, names⟩ = r at *
    simp [sayJ, jOpen, jShut] at hr
    refine ct_fn { n0 := 8, ex := [9], tk := [0, 12, 13, 16, 17, 20, 21, 24, 27, 30, 33, 34, 38, 40, 41, 51, 52, 53, 57, 63, 64, 65, 66, 67, 73, 74, 76, 77] } Tryd.func17 rfl (by kernel_rfl) (by kernel_rfl) rfl ?_
    simp -implicitDefEqProofs [Tryd.f17, tJson, encL_app, encL, encT]
    have hlr : r.length ≤ 100000000000 := by omega
    have hl0 : ∀ i, (out ++ 91 :: sayJS 6 (items.take i) names true).length + 1 ≤ r.length := by
      intro i
      have := sayJS_take_len (k := 6) items names true i
      rw [← hr]
      simp only [List.length_append, List.length_cons, List.length_nil]
      omega
    have h0 := hl0 0
    simp [sayJS] at h0
    refine ⟨by unfold maxLen; omega, by omega, ?_⟩
    obtain ⟨I, hI⟩ : ∃ I : Nat → St → Prop, ∀ m s, I m s ↔ ∃ i, i ≤ items.length ∧ m = items.length - i ∧
      s = { env := [(0, .sl (.of 5) (out ++ 91 :: sayJS 6 (items.take i) names true).length (encB (out ++ 91 :: sayJS 6 (items.take i) names true))), (1, .agg [.int .i64 6, .str t, .sl .no items.length (encR .no (tJsonS items)), .sl .no names.length (encR .no (tStrS names))]), (3, .ptr 0 0 0), (4, .sl .nil 0 []), (5, .int .u8 91), (6, .int .u8 93), (7, .int .i64 i)], loc := [],
            K := [[.int .i64 6, .str t, .sl .no items.length (encR .no (tJsonS items)), .sl .no names.length (encR .no (tStrS names))]] :: K } := ⟨_, fun _ _ => Iff.rfl⟩
    refine wC_loopI I items.length ((hI _ _).2 ⟨0, by omega, rfl, rfl⟩) (St.le_of (by simp) (by simp [sayJS]) rfl rfl) ?_
    intro m s hs
    obtain ⟨i, hi, rfl, rfl⟩ := (hI _ _).1 hs
    rcases Nat.lt_or_ge i items.length with hlt | hge
    · obtain ⟨x, hx⟩ : ∃ x, items[i]? = some x := ⟨_, List.getElem?_eq_getElem hlt⟩
      have ea := atJson (m := .no) hx
      have hsx := szJson_get hx
      have hek := encL_len (m := .no) (r := tJson x)
      rw [tJson_len] at hek
      have htk : (encL .no (tJson x)).take 4 = encL .no (tJson x) := List.take_of_length_le (by omega)
      have w2 : IntKind.i64.wrap ((i : Int) + 1) = (i + 1 : Nat) := by rw [wrap64 (by omega) (by omega)]; rfl
      have h3 := hl0 (i + 1)
      have hF := sayJS_take (k := 6) (names := names) (b := true) hx
      obtain ⟨E, hE⟩ : ∃ E, out ++ 91 :: sayJS 6 (items.take i) names true = E := ⟨_, rfl⟩
      obtain ⟨F, hF'⟩ : ∃ F, out ++ 91 :: sayJS 6 (items.take (i + 1)) names true = F := ⟨_, rfl⟩
      rw [hE]
      rw [hF'] at h3
      have hEF : F = E ++ ((if i = 0 ∧ true = true then [] else [44]) ++ (if (6 : Int) = 7 then escaped (names[i]?.getD []) ++ [58] else []) ++ sayJ x) := by
        rw [← hF', hF, ← hE]; simp
      have hc := fun (O : Bs) (hO : O ++ sayJ x = F) (K : List (List (List AC))) => hO ▸ ih x (d - 1) O K (hkids x (List.mem_of_getElem? hx)) (by rw [hO]; omega) (by omega) (by have := List.sizeOf_lt_of_mem (List.mem_of_getElem? hx); simp at hN; omega)
      have hn : I (items.length - (i + 1)) { env := [(0, .sl (.of 5) (F).length (encB (F))), (1, .agg [.int .i64 6, .str t, .sl .no items.length (encR .no (tJsonS items)), .sl .no names.length (encR .no (tStrS names))]), (3, .ptr 0 0 0), (4, .sl .nil 0 []), (5, .int .u8 91), (6, .int .u8 93), (7, .int .i64 (i + 1 : Nat))], loc := [], K := [[.int .i64 6, .str t, .sl .no items.length (encR .no (tJsonS items)), .sl .no names.length (encR .no (tStrS names))]] :: K } := (hI _ _).2 ⟨i + 1, by omega, rfl, by rw [hF']⟩
      clear hE hF hF'
      rcases Nat.eq_zero_or_pos i with e0 | e0
      · simp [e0] at hEF
        have hEl := congrArg List.length hEF
        simp at hEl
        have e1 : (0 < i) = False := by simp; omega
        simp -implicitDefEqProofs [hlt, e1, ea, w2, encJsonS_len, encStrS_len, hek, htk]
        intro _
        have hc' := hc (E) (by simp [hEF]) 
        clear hc
        try simp only [List.length_append, List.length_cons, List.length_nil, Nat.zero_add, encB_app, encB_cons, encB_nil] at hc'
        try simp only [List.append_assoc, List.cons_append, List.nil_append, UInt8.reduceToNat] at hc'
        refine callK_of (hc' _) ?_
        clear hc'
        simp -implicitDefEqProofs [w2]
        exact ⟨items.length - (i + 1), by omega, _, St.le_of (by simp) (by simp [St.trunc, look, mapV, mapC, killP]) rfl (by simp [St.trunc, mapC]), hn⟩
      · have e1 : ¬i = 0 := by omega
        simp [e1] at hEF
        have hEl := congrArg List.length hEF
        simp at hEl
        simp -implicitDefEqProofs [hlt, e0, ea, w2, encJsonS_len, encStrS_len, hek, htk]
        intro _
        refine ⟨by unfold maxLen; omega, by omega, ?_⟩
        have hc' := hc (E ++ [44]) (by simp [hEF]) 
        clear hc
        try simp only [List.length_append, List.length_cons, List.length_nil, Nat.zero_add, encB_app, encB_cons, encB_nil] at hc'
        try simp only [List.append_assoc, List.cons_append, List.nil_append, UInt8.reduceToNat] at hc'
        refine callK_of (hc' _) ?_
        clear hc'
        simp -implicitDefEqProofs [w2]
        exact ⟨items.length - (i + 1), by omega, _, St.le_of (by simp) (by simp [St.trunc, look, mapV, mapC, killP]) rfl (by simp [St.trunc, mapC]), hn⟩
    · have e : i = items.length := by omega
      subst e
      rw [List.take_of_length_le (Nat.le_refl _)] at *
      have h3 := hl0 items.length
      rw [List.take_of_length_le (Nat.le_refl _)] at h3
      simp at h3
      simp -implicitDefEqProofs
      intro _
      refine ⟨by unfold maxLen; omega, by omega, ?_⟩
      rw [← hr]; simp [Nat.add_assoc]
  · have hkids := jOk_kids (by simp) hok
    have hnl := jOk_names hok
    generalize hr : out ++ sayJ ⟨7, t, items, names⟩ = r at *
    simp [sayJ, jOpen, jShut] at hr
    refine ct_fn { n0 := 8, ex := [9], tk := [0, 12, 13, 16, 17, 20, 21, 24, 27, 30, 33, 34, 38, 40, 41, 51, 52, 53, 57, 63, 64, 65, 66, 67, 73, 74, 76, 77] } Tryd.func17 rfl (by kernel_rfl) (by kernel_rfl) rfl ?_
    simp -implicitDefEqProofs [Tryd.f17, tJson, encL_app, encL, encT]
    have hlr : r.length ≤ 100000000000 := by omega
    have hl0 : ∀ i, (out ++ 123 :: sayJS 7 (items.take i) names true).length + 1 ≤ r.length := by
      intro i
      have := sayJS_take_len (k := 7) items names true i
      rw [← hr]
      simp only [List.length_append, List.length_cons, List.length_nil]
      omega
    have h0 := hl0 0
    simp [sayJS] at h0
    refine ⟨by unfold maxLen; omega, by omega, ?_⟩
    obtain ⟨I, hI⟩ : ∃ I : Nat → St → Prop, ∀ m s, I m s ↔ ∃ i, i ≤ items.length ∧ m = items.length - i ∧
      s = { env := [(0, .sl (.of 5) (out ++ 123 :: sayJS 7 (items.take i) names true).length (encB (out ++ 123 :: sayJS 7 (items.take i) names true))), (1, .agg [.int .i64 7, .str t, .sl .no items.length (encR .no (tJsonS items)), .sl .no names.length (encR .no (tStrS names))]), (3, .ptr 0 0 0), (4, .sl .nil 0 []), (5, .int .u8 123), (6, .int .u8 125), (7, .int .i64 i)], loc := [],
            K := [[.int .i64 7, .str t, .sl .no items.length (encR .no (tJsonS items)), .sl .no names.length (encR .no (tStrS names))]] :: K } := ⟨_, fun _ _ => Iff.rfl⟩
    refine wC_loopI I items.length ((hI _ _).2 ⟨0, by omega, rfl, rfl⟩) (St.le_of (by simp) (by simp [sayJS]) rfl rfl) ?_
    intro m s hs
    obtain ⟨i, hi, rfl, rfl⟩ := (hI _ _).1 hs
    rcases Nat.lt_or_ge i items.length with hlt | hge
    · obtain ⟨x, hx⟩ : ∃ x, items[i]? = some x := ⟨_, List.getElem?_eq_getElem hlt⟩
      have ea := atJson (m := .no) hx
      have hsx := szJson_get hx
      have hek := encL_len (m := .no) (r := tJson x)
      rw [tJson_len] at hek
      have htk : (encL .no (tJson x)).take 4 = encL .no (tJson x) := List.take_of_length_le (by omega)
      have w2 : IntKind.i64.wrap ((i : Int) + 1) = (i + 1 : Nat) := by rw [wrap64 (by omega) (by omega)]; rfl
      obtain ⟨y, hy⟩ : ∃ y, names[i]? = some y := ⟨_, List.getElem?_eq_getElem (by omega)⟩
      have eb := atStr (m := .no) hy
      have hsy := szStr_get hy
      have hlt2 : i < names.length := by omega
      simp only [Nat.mul_one] at eb
      have h3 := hl0 (i + 1)
      have hF := sayJS_take (k := 7) (names := names) (b := true) hx
      obtain ⟨E, hE⟩ : ∃ E, out ++ 123 :: sayJS 7 (items.take i) names true = E := ⟨_, rfl⟩
      obtain ⟨F, hF'⟩ : ∃ F, out ++ 123 :: sayJS 7 (items.take (i + 1)) names true = F := ⟨_, rfl⟩
      rw [hE]
      rw [hF'] at h3
      have hEF : F = E ++ ((if i = 0 ∧ true = true then [] else [44]) ++ (if (7 : Int) = 7 then escaped (names[i]?.getD []) ++ [58] else []) ++ sayJ x) := by
        rw [← hF', hF, ← hE]; simp
      have hc := fun (O : Bs) (hO : O ++ sayJ x = F) (K : List (List (List AC))) => hO ▸ ih x (d - 1) O K (hkids x (List.mem_of_getElem? hx)) (by rw [hO]; omega) (by omega) (by have := List.sizeOf_lt_of_mem (List.mem_of_getElem? hx); simp at hN; omega)
      have hn : I (items.length - (i + 1)) { env := [(0, .sl (.of 5) (F).length (encB (F))), (1, .agg [.int .i64 7, .str t, .sl .no items.length (encR .no (tJsonS items)), .sl .no names.length (encR .no (tStrS names))]), (3, .ptr 0 0 0), (4, .sl .nil 0 []), (5, .int .u8 123), (6, .int .u8 125), (7, .int .i64 (i + 1 : Nat))], loc := [], K := [[.int .i64 7, .str t, .sl .no items.length (encR .no (tJsonS items)), .sl .no names.length (encR .no (tStrS names))]] :: K } := (hI _ _).2 ⟨i + 1, by omega, rfl, by rw [hF']⟩
      clear hE hF hF'
      rcases Nat.eq_zero_or_pos i with e0 | e0
      · rw [hy] at hEF; simp [e0] at hEF
        have hEl := congrArg List.length hEF
        simp at hEl
        have e1 : (0 < i) = False := by simp; omega
        simp -implicitDefEqProofs [hlt, e1, ea, hlt2, eb, encL, encT, w2, encJsonS_len, encStrS_len, hek, htk]
        intro _
        refine callK_of (c_EscapedS y (by omega) _) ?_
        simp -implicitDefEqProofs [hlt, ea, w2, encJsonS_len, encStrS_len, hek, htk]
        refine ⟨by unfold maxLen; omega, by omega, ?_⟩
        try refine ⟨by unfold maxLen; omega, by omega, ?_⟩
        have hc' := hc (E ++ escaped y ++ [58]) (by simp [hEF]) 
        clear hc
        try simp only [List.length_append, List.length_cons, List.length_nil, Nat.zero_add, encB_app, encB_cons, encB_nil] at hc'
        try simp only [List.append_assoc, List.cons_append, List.nil_append, UInt8.reduceToNat] at hc'
        refine callK_of (hc' _) ?_
        clear hc'
        simp -implicitDefEqProofs [w2]
        exact ⟨items.length - (i + 1), by omega, _, St.le_of (by simp) (by simp [St.trunc, look, mapV, mapC, killP]) rfl (by simp [St.trunc, mapC]), hn⟩
      · have e1 : ¬i = 0 := by omega
        rw [hy] at hEF; simp [e1] at hEF
        have hEl := congrArg List.length hEF
        simp at hEl
        simp -implicitDefEqProofs [hlt, e0, ea, hlt2, eb, encL, encT, w2, encJsonS_len, encStrS_len, hek, htk]
        intro _
        refine ⟨by unfold maxLen; omega, by omega, ?_⟩
        refine callK_of (c_EscapedS y (by omega) _) ?_
        simp -implicitDefEqProofs [hlt, ea, w2, encJsonS_len, encStrS_len, hek, htk]
        refine ⟨by unfold maxLen; omega, by omega, ?_⟩
        try refine ⟨by unfold maxLen; omega, by omega, ?_⟩
        have hc' := hc (E ++ [44] ++ escaped y ++ [58]) (by simp [hEF]) 
        clear hc
        try simp only [List.length_append, List.length_cons, List.length_nil, Nat.zero_add, encB_app, encB_cons, encB_nil] at hc'
        try simp only [List.append_assoc, List.cons_append, List.nil_append, UInt8.reduceToNat] at hc'
        refine callK_of (hc' _) ?_
        clear hc'
        simp -implicitDefEqProofs [w2]
        exact ⟨items.length - (i + 1), by omega, _, St.le_of (by simp) (by simp [St.trunc, look, mapV, mapC, killP]) rfl (by simp [St.trunc, mapC]), hn⟩
    · have e : i = items.length := by omega
      subst e
      rw [List.take_of_length_le (Nat.le_refl _)] at *
      have h3 := hl0 items.length
      rw [List.take_of_length_le (Nat.le_refl _)] at h3
      simp at h3
      simp -implicitDefEqProofs
      intro _
      refine ⟨by unfold maxLen; omega, by omega, ?_⟩
      rw [← hr]; simp [Nat.add_assoc]
  · simp [jOk, jHead, n1, n2, n3, n4, n5, n6, n7] at hok
theorem c_l22Say (j : DJson) (d : Int) (out : Bs) (K : List (List (List AC))) (hok : jOk j d = true) (hb : (out ++ sayJ j).length ≤ 100000000000) (hsz : szL (tJson j) ≤ 2000000) :
    Ct Tryd.prog 17 [.sl (.of 5) out.length (encB out), .agg (encL .no (tJson j))] K (.sl (.of 5) (out ++ sayJ j).length (encB (out ++ sayJ j))) K := c_l22Say_rec _ j d out K hok hb hsz (Nat.lt_succ_self _)
theorem c_JsonText (j : DJson) (hsz : szL (tJson j) ≤ 2000000) (K) : Ct Tryd.prog 8 [.agg (encL .no (tJson j))] K (.str (jsonText j)) K := by
  have hek := encL_len (m := .no) (r := tJson j)
  rw [tJson_len] at hek
  have htk : (encL .no (tJson j)).take 4 = encL .no (tJson j) := List.take_of_length_le (by omega)
  have hl := sayJ_len j
  refine ct_fn { n0 := 4, ex := [], tk := [5, 8] } Tryd.func8 rfl (by kernel_rfl) (by kernel_rfl) rfl ?_
  simp -implicitDefEqProofs [Tryd.f8, hek, htk]
  refine callK_of (c_JsonOk j _) ?_
  cases hok : jOk j 20 with
  | false => simp -implicitDefEqProofs [jsonText, hok]
  | true =>
    simp -implicitDefEqProofs [hek, htk]
    refine callK_of (c_writeJsonN j 20 _ hok hsz) ?_
    simp -implicitDefEqProofs [bytesOf]
    refine fun _ => ⟨fun h => ?_, fun h => ?_⟩
    · simp [jsonText, hok]; omega
    · simp [jsonText, hok, (by unfold maxLen; omega : (sayJ j).length ≤ maxLen)]; omega
theorem c_JsonTextS (j : DJson) (hsz : szL (tJson j) ≤ 2000000) (K) : Ct Tryd.prog 6 [.agg (encL .no (tJson j))] K (.str (jsonText j)) K := by
  have hek := encL_len (m := .no) (r := tJson j)
  rw [tJson_len] at hek
  have htk : (encL .no (tJson j)).take 4 = encL .no (tJson j) := List.take_of_length_le (by omega)
  have hl := sayJ_len j
  refine ct_fn { n0 := 4, ex := [], tk := [5, 7, 9] } Tryd.func6 rfl (by kernel_rfl) (by kernel_rfl) rfl ?_
  simp -implicitDefEqProofs [Tryd.f6, hek, htk]
  refine callK_of (c_JsonOkS j _ hsz) ?_
  cases hok : jOk j 20 with
  | false => simp -implicitDefEqProofs [jsonText, hok]
  | true =>
    simp -implicitDefEqProofs [hek, htk]
    refine callK_of (by simpa using c_l22Say j 20 [] _ hok (by simp; omega) hsz) ?_
    simp -implicitDefEqProofs [bytesOf]
    refine fun _ => ⟨fun h => ?_, fun h => ?_⟩
    · simp [jsonText, hok]; omega
    · simp [jsonText, hok, (by unfold maxLen; omega : (sayJ j).length ≤ maxLen)]; omega
end Go.Proofs.YtkpdlbidadcdjaaDoor.Abs
