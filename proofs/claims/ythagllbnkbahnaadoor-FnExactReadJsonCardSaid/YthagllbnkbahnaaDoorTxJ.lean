/- Json: what is right: contracts. No condition. -/
import Derived.Test.YthagllbnkbahnaaDoorTxC
import Derived.Test.YthagllbnkbahnaaDoorTxJP
set_option linter.unusedVariables false
set_option linter.unusedSimpArgs false
namespace Go.Proofs.YthagllbnkbahnaaDoor.Abs
open Go
set_option maxHeartbeats 1000000
set_option maxRecDepth 100000
theorem c_noEsc (s : Bs) (K) : Ct Tryd.prog 48 [.str s] K (.bool (noEsc s)) K := by
  refine ct_fn { n0 := 3, ex := [], tk := [4] } Tryd.func48 rfl (by kernel_rfl) (by kernel_rfl) rfl ?_
  simp -implicitDefEqProofs [Tryd.f48]
  refine callK_of (c_Escaped s _) ?_
  simp -implicitDefEqProofs
  exact noEsc_eq s
theorem c_jsonOk2 (x : DJson) (d : Int) (J : List AC) (K) (h0 : 0 < d) (h1 : d ≤ 1000) (hc : ∀ K, Ct Tryd.prog 31 [.agg (encL .no (tJson x)), .int .i64 (d - 1)] K (.bool (jOk x (d - 1))) K) :
    Ct Tryd.prog 50 [.agg (encL .no (tJson x)), .ptr 2 1 0] ([] :: [] :: [J, [.int .i64 d]] :: K) (.bool (!jOk x (d - 1))) ([] :: [] :: [J, [.int .i64 d]] :: K) := by
  have hek := encL_len (m := .no) (r := tJson x)
  rw [tJson_len] at hek
  have htk : (encL .no (tJson x)).take 4 = encL .no (tJson x) := List.take_of_length_le (by omega)
  have w1 : IntKind.i64.wrap (d - 1) = d - 1 := wrap64 (by omega) (by omega)
  refine ct_fn { n0 := 4, ex := [], tk := [7] } Tryd.func50 rfl (by kernel_rfl) (by kernel_rfl) rfl ?_
  simp -implicitDefEqProofs [Tryd.f50, hek, htk, w1]
  refine callK_of (hc _) ?_
  simp -implicitDefEqProofs
theorem c_jsonOk_rec : ∀ N : Nat, ∀ (j : DJson) (d : Int) (K : List (List (List AC))) (h0 : 0 ≤ d) (h1 : d ≤ 1000) (hN : SizeOf.sizeOf j < N), Ct Tryd.prog 31 [.agg (encL .no (tJson j)), .int .i64 d] K (.bool (jOk j d)) K := by
  intro N
  induction N with
  | zero => intros; omega
  | succ N ih =>
  intro j d K h0 h1 hN
  obtain ⟨k, t, items, names⟩ := j
  generalize hr : jOk ⟨k, t, items, names⟩ d = r
  simp only [jOk, jHead, jOkS_all] at hr
  have hI : ∀ {K' : List (List (List AC))}, 0 < d → Ct Tryd.prog 49 [.sl .no items.length (encR .no (tJsonS items)), .fn 50 [.ptr 0 1 0]] ([encL .no (tJson ⟨k, t, items, names⟩), [.int .i64 d]] :: K') (.bool (items.any fun x => !jOk x (d - 1))) ([encL .no (tJson ⟨k, t, items, names⟩), [.int .i64 d]] :: K') := by
    intro K' hd
    refine c_ContainsFuncJson items (fun x => !jOk x (d - 1)) _ _ _ (fun x hx => ?_)
    simpa using c_jsonOk2 x d _ _ hd h1 (fun K => ih x (d - 1) K (by omega) (by omega) (by have := List.sizeOf_lt_of_mem hx; simp at hN; omega))
  have hE : ∀ {K' : List (List (List AC))}, Ct Tryd.prog 47 [.sl .no names.length (encR .no (tStrS names)), .fn 48 []] K' (.bool (anyNoEsc names)) K' := fun {K'} =>
    c_ContainsFuncStr names noEsc _ _ _ (fun x hx => by simpa using c_noEsc x _)
  rcases (by omega : k = 1 ∨ k = 2 ∨ k = 3 ∨ k = 4 ∨ k = 5 ∨ k = 6 ∨ k = 7 ∨ (k ≠ 1 ∧ k ≠ 2 ∧ k ≠ 3 ∧ k ≠ 4 ∧ k ≠ 5 ∧ k ≠ 6 ∧ k ≠ 7)) with rfl | rfl | rfl | rfl | rfl | rfl | rfl | ⟨n1, n2, n3, n4, n5, n6, n7⟩
  iterate 3
    subst hr
    refine ct_fn { n0 := 6, ex := [17, 18], tk := [34, 38, 47, 68, 81] } Tryd.func31 rfl (by kernel_rfl) (by kernel_rfl) rfl ?_
    simp -implicitDefEqProofs [Tryd.f31, tJson, encL_app, encL, encT]
  · subst hr
    refine ct_fn { n0 := 6, ex := [17, 18], tk := [34, 38, 47, 68, 81] } Tryd.func31 rfl (by kernel_rfl) (by kernel_rfl) rfl ?_
    simp -implicitDefEqProofs [Tryd.f31, tJson, encL_app, encL, encT]
    intro _ _
    refine callK_still (fun _ => c_IntOk t _) ?_
    simp -implicitDefEqProofs
    refine callK_still (fun _ => c_FloatOk t _) ?_
    simp -implicitDefEqProofs
  · subst hr
    refine ct_fn { n0 := 6, ex := [17, 18], tk := [34, 38, 47, 68, 81] } Tryd.func31 rfl (by kernel_rfl) (by kernel_rfl) rfl ?_
    simp -implicitDefEqProofs [Tryd.f31, tJson, encL_app, encL, encT]
    intro _ _
    refine callK_still (fun _ => c_Escaped t _) ?_
    simp -implicitDefEqProofs [noEsc_eq]
  · subst hr
    refine ct_fn { n0 := 6, ex := [17, 18], tk := [34, 38, 47, 68, 81] } Tryd.func31 rfl (by kernel_rfl) (by kernel_rfl) rfl ?_
    simp -implicitDefEqProofs [Tryd.f31, tJson, encL_app, encL, encT]
    intro _ _ _
    simp only [tJson, encL, encT, Md.ow_no, tJsonS_len, tStrS_len] at hI
    refine ⟨fun h1 h2 => absurd h2 h1, fun h => callK_still (fun hg => hI (by simp at hg; exact hg.1)) ?_⟩
    simp -implicitDefEqProofs [h]
    try grind
  · subst hr
    refine ct_fn { n0 := 6, ex := [17, 18], tk := [34, 38, 47, 68, 81] } Tryd.func31 rfl (by kernel_rfl) (by kernel_rfl) rfl ?_
    simp -implicitDefEqProofs [Tryd.f31, tJson, encL_app, encL, encT]
    intro m1 m2 m3 m4
    simp only [tJson, encL, encT, Md.ow_no, tJsonS_len, tStrS_len] at hI
    refine callK_still (fun _ => hE) ?_
    simp -implicitDefEqProofs
    refine ⟨fun h1 h2 h3 => ?_, fun h1 h2 => callK_still (fun hg => hI (by simp at hg; exact hg.1)) ?_⟩
    · rcases h1 with h1 | h1
      · exact absurd (by omega) h1
      · rw [h3] at h1; cases h1
    · have h3 : names.length = items.length := by omega
      simp -implicitDefEqProofs [h2, h3]
      try grind
  · subst hr
    refine ct_fn { n0 := 6, ex := [17, 18], tk := [34, 38, 47, 68, 81] } Tryd.func31 rfl (by kernel_rfl) (by kernel_rfl) rfl ?_
    simp -implicitDefEqProofs [Tryd.f31, tJson, encL_app, encL, encT, n1, n2, n3, n4, n5, n6, n7]
theorem c_jsonOk (j : DJson) (d : Int) (K) (h0 : 0 ≤ d) (h1 : d ≤ 1000) : Ct Tryd.prog 31 [.agg (encL .no (tJson j)), .int .i64 d] K (.bool (jOk j d)) K := c_jsonOk_rec _ j d K h0 h1 (Nat.lt_succ_self _)
theorem c_JsonOk (j : DJson) (K) : Ct Tryd.prog 13 [.agg (encL .no (tJson j))] K (.bool (jOk j 20)) K := by
  have hek := encL_len (m := .no) (r := tJson j)
  rw [tJson_len] at hek
  have htk : (encL .no (tJson j)).take 4 = encL .no (tJson j) := List.take_of_length_le (by omega)
  refine ct_fn { n0 := 3, ex := [], tk := [4] } Tryd.func13 rfl (by kernel_rfl) (by kernel_rfl) rfl ?_
  simp -implicitDefEqProofs [Tryd.f13, hek, htk]
  refine callK_of (c_jsonOk j 20 _ (by omega) (by omega)) ?_
  simp -implicitDefEqProofs
end Go.Proofs.YthagllbnkbahnaaDoor.Abs
