/- Json: what is right: contracts. No condition. -/
import Derived.Test.YtkpdlbidadcdjaaDoorTxC
import Derived.Test.YtkpdlbidadcdjaaDoorTxJP
set_option linter.unusedVariables false
set_option linter.unusedSimpArgs false
namespace Go.Proofs.YtkpdlbidadcdjaaDoor.Abs
open Go
set_option maxHeartbeats 1000000
set_option maxRecDepth 100000
theorem c_noEsc (s : Bs) (K) : Ct Tryd.prog 53 [.str s] K (.bool (noEsc s)) K := by
  refine ct_fn { n0 := 3, ex := [], tk := [4] } Tryd.func53 rfl (by kernel_rfl) (by kernel_rfl) rfl ?_
  simp -implicitDefEqProofs [Tryd.f53]
  refine callK_of (c_Escaped s _) ?_
  simp -implicitDefEqProofs
  exact noEsc_eq s
theorem c_jsonOk2 (x : DJson) (d : Int) (J : List AC) (K) (h0 : 0 < d) (h1 : d ≤ 1000) (hc : ∀ K, Ct Tryd.prog 34 [.agg (encL .no (tJson x)), .int .i64 (d - 1)] K (.bool (jOk x (d - 1))) K) :
    Ct Tryd.prog 55 [.agg (encL .no (tJson x)), .ptr 2 1 0] ([] :: [] :: [J, [.int .i64 d]] :: K) (.bool (!jOk x (d - 1))) ([] :: [] :: [J, [.int .i64 d]] :: K) := by
  have hek := encL_len (m := .no) (r := tJson x)
  rw [tJson_len] at hek
  have htk : (encL .no (tJson x)).take 4 = encL .no (tJson x) := List.take_of_length_le (by omega)
  have w1 : IntKind.i64.wrap (d - 1) = d - 1 := wrap64 (by omega) (by omega)
  refine ct_fn { n0 := 4, ex := [], tk := [7] } Tryd.func55 rfl (by kernel_rfl) (by kernel_rfl) rfl ?_
  simp -implicitDefEqProofs [Tryd.f55, hek, htk, w1]
  refine callK_of (hc _) ?_
  simp -implicitDefEqProofs
theorem c_jsonOk_rec : ∀ N : Nat, ∀ (j : DJson) (d : Int) (K : List (List (List AC))) (h0 : 0 ≤ d) (h1 : d ≤ 1000) (hN : SizeOf.sizeOf j < N), Ct Tryd.prog 34 [.agg (encL .no (tJson j)), .int .i64 d] K (.bool (jOk j d)) K := by
  intro N
  induction N with
  | zero => intros; omega
  | succ N ih =>
  intro j d K h0 h1 hN
  obtain ⟨k, t, items, names⟩ := j
  generalize hr : jOk ⟨k, t, items, names⟩ d = r
  simp only [jOk, jHead, jOkS_all] at hr
  have hI : ∀ {K' : List (List (List AC))}, 0 < d → Ct Tryd.prog 54 [.sl .no items.length (encR .no (tJsonS items)), .fn 55 [.ptr 0 1 0]] ([encL .no (tJson ⟨k, t, items, names⟩), [.int .i64 d]] :: K') (.bool (items.any fun x => !jOk x (d - 1))) ([encL .no (tJson ⟨k, t, items, names⟩), [.int .i64 d]] :: K') := by
    intro K' hd
    refine c_ContainsFuncJson items (fun x => !jOk x (d - 1)) _ _ _ (fun x hx => ?_)
    simpa using c_jsonOk2 x d _ _ hd h1 (fun K => ih x (d - 1) K (by omega) (by omega) (by have := List.sizeOf_lt_of_mem hx; simp at hN; omega))
  have hE : ∀ {K' : List (List (List AC))}, Ct Tryd.prog 52 [.sl .no names.length (encR .no (tStrS names)), .fn 53 []] K' (.bool (anyNoEsc names)) K' := fun {K'} =>
    c_ContainsFuncStr names noEsc _ _ _ (fun x hx => by simpa using c_noEsc x _)
  rcases (by omega : k = 1 ∨ k = 2 ∨ k = 3 ∨ k = 4 ∨ k = 5 ∨ k = 6 ∨ k = 7 ∨ (k ≠ 1 ∧ k ≠ 2 ∧ k ≠ 3 ∧ k ≠ 4 ∧ k ≠ 5 ∧ k ≠ 6 ∧ k ≠ 7)) with rfl | rfl | rfl | rfl | rfl | rfl | rfl | ⟨n1, n2, n3, n4, n5, n6, n7⟩
  iterate 3
    subst hr
    refine ct_fn { n0 := 6, ex := [17, 18], tk := [34, 38, 47, 68, 81] } Tryd.func34 rfl (by kernel_rfl) (by kernel_rfl) rfl ?_
    simp -implicitDefEqProofs [Tryd.f34, tJson, encL_app, encL, encT]
  · subst hr
    refine ct_fn { n0 := 6, ex := [17, 18], tk := [34, 38, 47, 68, 81] } Tryd.func34 rfl (by kernel_rfl) (by kernel_rfl) rfl ?_
    simp -implicitDefEqProofs [Tryd.f34, tJson, encL_app, encL, encT]
    intro _ _
    refine callK_still (fun _ => c_IntOk t _) ?_
    simp -implicitDefEqProofs
    refine callK_still (fun _ => c_FloatOk t _) ?_
    simp -implicitDefEqProofs
  · subst hr
    refine ct_fn { n0 := 6, ex := [17, 18], tk := [34, 38, 47, 68, 81] } Tryd.func34 rfl (by kernel_rfl) (by kernel_rfl) rfl ?_
    simp -implicitDefEqProofs [Tryd.f34, tJson, encL_app, encL, encT]
    intro _ _
    refine callK_still (fun _ => c_Escaped t _) ?_
    simp -implicitDefEqProofs [noEsc_eq]
  · subst hr
    refine ct_fn { n0 := 6, ex := [17, 18], tk := [34, 38, 47, 68, 81] } Tryd.func34 rfl (by kernel_rfl) (by kernel_rfl) rfl ?_
    simp -implicitDefEqProofs [Tryd.f34, tJson, encL_app, encL, encT]
    intro _ _ _
    simp only [tJson, encL, encT, Md.ow_no, tJsonS_len, tStrS_len] at hI
    refine ⟨fun h1 h2 => absurd h2 h1, fun h => callK_still (fun hg => hI (by simp at hg; exact hg.1)) ?_⟩
    simp -implicitDefEqProofs [h]
    try grind
  · subst hr
    refine ct_fn { n0 := 6, ex := [17, 18], tk := [34, 38, 47, 68, 81] } Tryd.func34 rfl (by kernel_rfl) (by kernel_rfl) rfl ?_
    simp -implicitDefEqProofs [Tryd.f34, tJson, encL_app, encL, encT]
    intro m1 m2 m3 m4
    simp only [tJson, encL, encT, Md.ow_no, tJsonS_len, tStrS_len] at hI
    refine callK_still (fun _ => hE) ?_
    simp -implicitDefEqProofs
    refine ⟨fun h1 h2 h3 => ?_, fun h1 h2 => callK_still (fun hg => hI (by simp at hg; exact hg.1)) ?_⟩
    · rcases h1 with h1 | h1
      · exact absurd (by omega) h1
      · rw [h3] at h1; cases h1
    · have h3 : names.length = items.length := by omega
      simp -implicitDefEqProofs [h2, h3]
      try grind
  · subst hr
    refine ct_fn { n0 := 6, ex := [17, 18], tk := [34, 38, 47, 68, 81] } Tryd.func34 rfl (by kernel_rfl) (by kernel_rfl) rfl ?_
    simp -implicitDefEqProofs [Tryd.f34, tJson, encL_app, encL, encT, n1, n2, n3, n4, n5, n6, n7]
theorem c_jsonOk (j : DJson) (d : Int) (K) (h0 : 0 ≤ d) (h1 : d ≤ 1000) : Ct Tryd.prog 34 [.agg (encL .no (tJson j)), .int .i64 d] K (.bool (jOk j d)) K := c_jsonOk_rec _ j d K h0 h1 (Nat.lt_succ_self _)
theorem c_JsonOk (j : DJson) (K) : Ct Tryd.prog 20 [.agg (encL .no (tJson j))] K (.bool (jOk j 20)) K := by
  have hek := encL_len (m := .no) (r := tJson j)
  rw [tJson_len] at hek
  have htk : (encL .no (tJson j)).take 4 = encL .no (tJson j) := List.take_of_length_le (by omega)
  refine ct_fn { n0 := 3, ex := [], tk := [4] } Tryd.func20 rfl (by kernel_rfl) (by kernel_rfl) rfl ?_
  simp -implicitDefEqProofs [Tryd.f20, hek, htk]
  refine callK_of (c_jsonOk j 20 _ (by omega) (by omega)) ?_
  simp -implicitDefEqProofs
theorem c_l22Right_rec : ∀ N : Nat, ∀ (j : DJson) (d : Int) (K : List (List (List AC))) (h0 : 0 ≤ d) (h1 : d ≤ 1000) (hsz : szL (tJson j) ≤ 2000000) (hN : SizeOf.sizeOf j < N), Ct Tryd.prog 32 [.agg (encL .no (tJson j)), .int .i64 d] K (.bool (jOk j d)) K := by
  intro N
  induction N with
  | zero => intros; omega
  | succ N ih =>
  intro j d K h0 h1 hsz hN
  obtain ⟨k, t, items, names⟩ := j
  simp only [tJson, szL, szT, tJsonS_len, tStrS_len] at hsz
  have hEs : ∀ K', Ct Tryd.prog 33 [.str t] K' (.str (escaped t)) K' := fun K' => c_EscapedS t (by omega) K'
  have hIs : ∀ K', Ct Tryd.prog 40 [.str t] K' (.bool (intOk t)) K' := fun K' => c_IntOkS t (by omega) K'
  have hFs : ∀ K', Ct Tryd.prog 41 [.str t] K' (.bool (floatOk t)) K' := fun K' => c_FloatOkS t (by omega) K'
  rcases (by omega : k = 1 ∨ k = 2 ∨ k = 3 ∨ k = 4 ∨ k = 5 ∨ k = 6 ∨ k = 7 ∨ (k ≠ 1 ∧ k ≠ 2 ∧ k ≠ 3 ∧ k ≠ 4 ∧ k ≠ 5 ∧ k ≠ 6 ∧ k ≠ 7)) with rfl | rfl | rfl | rfl | rfl | rfl | rfl | ⟨n1, n2, n3, n4, n5, n6, n7⟩
  iterate 3
    refine ct_fn { n0 := 7, ex := [16, 17], tk := [30, 35, 42, 100, 111] } Tryd.func32 rfl (by kernel_rfl) (by kernel_rfl) rfl ?_
    simp -implicitDefEqProofs [Tryd.f32, tJson, encL_app, encL, encT]
    refine ⟨fun h => by simp [jOk, jHead, h], fun h _ _ => ⟨fun h => ?_, fun e1 e2 => ?_⟩⟩
    · rcases h with h | h <;> simp [jOk, jHead, List.ne_nil_of_length_pos h]
    · subst h e1 e2
      refine wC_loopI (fun n s => n = 0 ∧ s = _) 0 ⟨rfl, rfl⟩ (St.le_of (by simp) (by simp) rfl rfl) ?_
      rintro _ _ ⟨rfl, rfl⟩
      simp -implicitDefEqProofs [jOk, jHead, jOkS, encR, tJsonS, tStrS]
  · refine ct_fn { n0 := 7, ex := [16, 17], tk := [30, 35, 42, 100, 111] } Tryd.func32 rfl (by kernel_rfl) (by kernel_rfl) rfl ?_
    simp -implicitDefEqProofs [Tryd.f32, tJson, encL_app, encL, encT]
    refine callK_of (hIs _) ?_
    simp -implicitDefEqProofs
    refine callK_still (fun _ => hFs _) ?_
    simp -implicitDefEqProofs
    refine ⟨fun h h' => by simp [jOk, jHead, h, h'], fun h _ _ => ⟨fun h => ?_, fun e1 e2 => ?_⟩⟩
    · rcases h with h | h <;> simp [jOk, jHead, List.ne_nil_of_length_pos h]
    · subst e1 e2
      refine wC_loopI (fun n s => n = 0 ∧ s = _) 0 ⟨rfl, rfl⟩ (St.le_of (by simp) (by simp) rfl rfl) ?_
      rintro _ _ ⟨rfl, rfl⟩
      simp -implicitDefEqProofs [jOk, jHead, jOkS, encR, tJsonS, tStrS, noEsc_eq]
      try grind
  · refine ct_fn { n0 := 7, ex := [16, 17], tk := [30, 35, 42, 100, 111] } Tryd.func32 rfl (by kernel_rfl) (by kernel_rfl) rfl ?_
    simp -implicitDefEqProofs [Tryd.f32, tJson, encL_app, encL, encT]
    refine callK_of (hEs _) ?_
    simp -implicitDefEqProofs
    refine ⟨fun h => by simp [jOk, jHead, noEsc_eq, h], fun h _ _ => ⟨fun h => ?_, fun e1 e2 => ?_⟩⟩
    · rcases h with h | h <;> simp [jOk, jHead, List.ne_nil_of_length_pos h]
    · subst e1 e2
      refine wC_loopI (fun n s => n = 0 ∧ s = _) 0 ⟨rfl, rfl⟩ (St.le_of (by simp) (by simp) rfl rfl) ?_
      rintro _ _ ⟨rfl, rfl⟩
      simp -implicitDefEqProofs [jOk, jHead, jOkS, encR, tJsonS, tStrS, noEsc_eq]
      try grind
  · refine ct_fn { n0 := 7, ex := [16, 17], tk := [30, 35, 42, 100, 111] } Tryd.func32 rfl (by kernel_rfl) (by kernel_rfl) rfl ?_
    simp -implicitDefEqProofs [Tryd.f32, tJson, encL_app, encL, encT]
    generalize hr : jOk { kind := 6, text := t, items := items, names := names } d = r
    simp [jOk, jHead] at hr
    refine ⟨fun h => by rw [← hr]; simp [h], fun h _ => ⟨fun h => ?_, fun e1 e2 => ?_⟩⟩
    · rcases h with h | h
      · rw [← hr]; simp [List.ne_nil_of_length_pos h]
      · rw [← hr, h]; simp
    subst h
    have e3 : 0 < d := by omega
    simp [e3, e1] at hr
    obtain ⟨I, hI⟩ : ∃ I : Nat → St → Prop, ∀ m s, I m s ↔ ∃ i, i ≤ items.length ∧ m = items.length - i ∧ r = jOkS (items.drop i) (d - 1) ∧
      s = { env := [(0, .agg [.int .i64 6, .str [], .sl .no items.length (encR .no (tJsonS items)), .sl .no names.length (encR .no (tStrS names))]), (1, .int .i64 d), (2, .ptr 0 0 0), (4, .bool false), (5, .bool true), (6, .int .i64 i)], loc := [],
            K := [[.int .i64 6, .str [], .sl .no items.length (encR .no (tJsonS items)), .sl .no names.length (encR .no (tStrS names))]] :: K } := ⟨_, fun _ _ => Iff.rfl⟩
    refine wC_loopI I items.length ((hI _ _).2 ⟨0, by omega, rfl, by simp [← hr], rfl⟩) (St.le_of (by simp) (by simp) rfl rfl) ?_
    intro m s hs
    obtain ⟨i, hi, rfl, hz, rfl⟩ := (hI _ _).1 hs
    rcases Nat.lt_or_ge i items.length with hlt | hge
    · obtain ⟨x, hx⟩ : ∃ x, items[i]? = some x := ⟨_, List.getElem?_eq_getElem hlt⟩
      have ea := atJson (m := .no) hx
      have ed := jOkS_drop (d := d - 1) hx
      have hsx := szJson_get hx
      have hek := encL_len (m := .no) (r := tJson x)
      rw [tJson_len] at hek
      have htk : (encL .no (tJson x)).take 4 = encL .no (tJson x) := List.take_of_length_le (by omega)
      have hc := fun K => ih x (d - 1) K (by omega) (by omega) (by omega) (by have := List.sizeOf_lt_of_mem (List.mem_of_getElem? hx); simp at hN; omega)
      have w1 : IntKind.i64.wrap (d - 1) = d - 1 := wrap64 (by omega) (by omega)
      have w2 : IntKind.i64.wrap ((i : Int) + 1) = (i + 1 : Nat) := by rw [wrap64 (by omega) (by omega)]; rfl
      simp -implicitDefEqProofs [hlt, ea, encL, encT, encJsonS_len, encStrS_len, w1, w2]
      intro _
      refine callK_still (r := .str []) (fun h => absurd h (by simp)) ?_
      simp -implicitDefEqProofs [hlt, ea, encL, encT, encJsonS_len, w1, hek, htk]
      refine callK_still (fun _ => hc _) ?_
      simp -implicitDefEqProofs [w2]
      refine ⟨fun h => by rw [hz, ed, h]; rfl, fun h => ?_⟩
      exact ⟨items.length - (i + 1), by omega, _, St.le_of (by simp) (by simp [St.trunc, look, mapV, mapC, killP]) rfl (by simp [St.trunc, mapC]), (hI _ _).2 ⟨i + 1, by omega, rfl, by rw [hz, ed, h]; rfl, rfl⟩⟩
    · have e : i = items.length := by omega
      subst e
      simp -implicitDefEqProofs
      intro _; rw [hz]; simp [jOkS]
  · refine ct_fn { n0 := 7, ex := [16, 17], tk := [30, 35, 42, 100, 111] } Tryd.func32 rfl (by kernel_rfl) (by kernel_rfl) rfl ?_
    simp -implicitDefEqProofs [Tryd.f32, tJson, encL_app, encL, encT]
    generalize hr : jOk { kind := 7, text := t, items := items, names := names } d = r
    simp [jOk, jHead] at hr
    refine ⟨fun h => by rw [← hr]; simp [h], fun h _ _ => ⟨fun h => ?_, fun e1 e2 => ?_⟩⟩
    · rcases h with h | h
      · rw [← hr]; have : ¬names.length = items.length := by omega
        simp [this]
      · rw [← hr, h]; simp
    subst h
    have e3 : 0 < d := by omega
    have e4 : names.length = items.length := by omega
    simp [e3, e4] at hr
    obtain ⟨I, hI⟩ : ∃ I : Nat → St → Prop, ∀ m s, I m s ↔ ∃ i, i ≤ items.length ∧ m = items.length - i ∧ r = (!anyNoEsc (names.drop i) && jOkS (items.drop i) (d - 1)) ∧
      s = { env := [(0, .agg [.int .i64 7, .str [], .sl .no items.length (encR .no (tJsonS items)), .sl .no names.length (encR .no (tStrS names))]), (1, .int .i64 d), (2, .ptr 0 0 0), (4, .bool false), (5, .bool true), (6, .int .i64 i)], loc := [],
            K := [[.int .i64 7, .str [], .sl .no items.length (encR .no (tJsonS items)), .sl .no names.length (encR .no (tStrS names))]] :: K } := ⟨_, fun _ _ => Iff.rfl⟩
    refine wC_loopI I items.length ((hI _ _).2 ⟨0, by omega, rfl, by simp [← hr], rfl⟩) (St.le_of (by simp) (by simp) rfl rfl) ?_
    intro m s hs
    obtain ⟨i, hi, rfl, hz, rfl⟩ := (hI _ _).1 hs
    rcases Nat.lt_or_ge i items.length with hlt | hge
    · obtain ⟨x, hx⟩ : ∃ x, items[i]? = some x := ⟨_, List.getElem?_eq_getElem hlt⟩
      have ea := atJson (m := .no) hx
      have ed := jOkS_drop (d := d - 1) hx
      have hsx := szJson_get hx
      have hek := encL_len (m := .no) (r := tJson x)
      rw [tJson_len] at hek
      have htk : (encL .no (tJson x)).take 4 = encL .no (tJson x) := List.take_of_length_le (by omega)
      have hc := fun K => ih x (d - 1) K (by omega) (by omega) (by omega) (by have := List.sizeOf_lt_of_mem (List.mem_of_getElem? hx); simp at hN; omega)
      have w1 : IntKind.i64.wrap (d - 1) = d - 1 := wrap64 (by omega) (by omega)
      have w2 : IntKind.i64.wrap ((i : Int) + 1) = (i + 1 : Nat) := by rw [wrap64 (by omega) (by omega)]; rfl
      obtain ⟨y, hy⟩ : ∃ y, names[i]? = some y := ⟨_, List.getElem?_eq_getElem (by omega)⟩
      have eb := atStr (m := .no) hy
      have en := anyNoEsc_drop hy
      have hsy := szStr_get hy
      have hlt2 : i < names.length := by omega
      simp only [Nat.mul_one] at eb
      simp -implicitDefEqProofs [hlt, hlt2, eb, ea, encL, encT, encJsonS_len, encStrS_len, w1, w2]
      intro _
      refine callK_still (fun _ => c_EscapedS y (by omega) _) ?_
      simp -implicitDefEqProofs [hlt, ea, encL, encT, encJsonS_len, w1, hek, htk]
      refine callK_still (fun _ => hc _) ?_
      simp -implicitDefEqProofs [w2]
      refine ⟨fun h => by rw [hz, en, ed, noEsc_eq]; rcases h with h | h <;> simp [h], fun g h => ?_⟩
      exact ⟨items.length - (i + 1), by omega, _, St.le_of (by simp) (by simp [St.trunc, look, mapV, mapC, killP]) rfl (by simp [St.trunc, mapC]), (hI _ _).2 ⟨i + 1, by omega, rfl, by rw [hz, ed, en, noEsc_eq, h]; simp [g], rfl⟩⟩
    · have e : i = items.length := by omega
      subst e
      simp -implicitDefEqProofs
      intro _; rw [hz, List.drop_of_length_le (Nat.le_of_eq e4)]; simp [jOkS, anyNoEsc]
  · refine ct_fn { n0 := 7, ex := [16, 17], tk := [30, 35, 42, 100, 111] } Tryd.func32 rfl (by kernel_rfl) (by kernel_rfl) rfl ?_
    simp -implicitDefEqProofs [Tryd.f32, tJson, encL_app, encL, encT, n1, n2, n3, n4, n5, n6, n7]
    simp [jOk, jHead, n1, n2, n3, n4, n5, n6, n7]
theorem c_l22Right (j : DJson) (d : Int) (K) (h0 : 0 ≤ d) (h1 : d ≤ 1000) (hsz : szL (tJson j) ≤ 2000000) : Ct Tryd.prog 32 [.agg (encL .no (tJson j)), .int .i64 d] K (.bool (jOk j d)) K := c_l22Right_rec _ j d K h0 h1 hsz (Nat.lt_succ_self _)
theorem c_JsonOkS (j : DJson) (K) (hsz : szL (tJson j) ≤ 2000000) : Ct Tryd.prog 16 [.agg (encL .no (tJson j))] K (.bool (jOk j 20)) K := by
  have hek := encL_len (m := .no) (r := tJson j)
  rw [tJson_len] at hek
  have htk : (encL .no (tJson j)).take 4 = encL .no (tJson j) := List.take_of_length_le (by omega)
  refine ct_fn { n0 := 3, ex := [], tk := [4] } Tryd.func16 rfl (by kernel_rfl) (by kernel_rfl) rfl ?_
  simp -implicitDefEqProofs [Tryd.f16, hek, htk]
  refine callK_of (c_l22Right j 20 _ (by omega) (by omega) hsz) ?_
  simp -implicitDefEqProofs
end Go.Proofs.YtkpdlbidadcdjaaDoor.Abs
