/- AllSels, SpreadsIn: the program's and the reference's. No condition. -/
import Derived.Test.YtkpdlbidadcdjaaSels
set_option linter.unusedVariables false
set_option linter.unusedSimpArgs false
namespace Go.Proofs.Ytkpdlbidadcdjaa.Abs
open Go
set_option maxHeartbeats 1000000
set_option maxRecDepth 100000
theorem len_cnt : ∀ ys : List DSel, ys.length ≤ cntS ys := by
  intro ys; induction ys with
  | nil => simp
  | cons y ys ih => simp only [cntS, cntX_eq, List.length_cons]; omega
theorem c_AllSels_rec : ∀ N : Nat, ∀ (xs : List DSel) (K : List (List (List AC))) (hs : xs.length + szR (tSelS xs) ≤ 1048576) (hN : SizeOf.sizeOf xs < N),
    Ct Try.prog 45 [.sl .no xs.length (encR .no (tSelS xs))] K (.sl (.of 57) (cntS xs) (encR .no (tSelS (allS xs)))) K := by
  intro N
  induction N with
  | zero => intros; omega
  | succ N ih =>
  intro xs K hs hN
  have hle := cntS_le xs
  refine ct_fn { n0 := 6, ex := [7, 8, 9], tk := [6, 13, 17, 18, 21, 22, 24] } Try.func45 rfl (by kernel_rfl) (by kernel_rfl) rfl ?_
  simp -implicitDefEqProofs [Try.f45]
  intro h1
  obtain ⟨I, hI⟩ : ∃ I : Nat → St → Prop, ∀ m s, I m s ↔ ∃ i, i ≤ xs.length ∧ m = xs.length - i ∧
    s = { env := [(0, .sl .no xs.length (encR .no (tSelS xs))), (2, .sl .nil 0 []), (3, .sl (.of 57) (cntS (xs.take i)) (encR .no (tSelS (allS (xs.take i))))), (7, .sl .no xs.length (encR .no (tSelS xs))), (8, .int .i64 xs.length), (9, .int .i64 i)], loc := [], K := [] :: K } := ⟨_, fun _ _ => Iff.rfl⟩
  refine wC_loopI I xs.length ((hI _ _).2 ⟨0, by omega, rfl, rfl⟩) (St.le_of (by simp) (by simp [cntS, allS, tSelS, encR]) rfl rfl) ?_
  intro m s hm
  obtain ⟨i, hi, rfl, rfl⟩ := (hI _ _).1 hm
  have hcl := cntS_take_le (xs := xs) i
  rcases Nat.lt_or_ge i xs.length with hlt | hge
  · obtain ⟨x, hx⟩ : ∃ x, xs[i]? = some x := ⟨_, List.getElem?_eq_getElem hlt⟩
    have ea := atSel (m := .no) hx
    have es := szR_get (tSelS_get hx)
    have el := szR_take_le (rs := tSelS xs) (i + 1)
    have hz := szSel x
    have hct := cntS_take hx
    have hcl2 := cntS_take_le (xs := xs) (i + 1)
    have hal := allS_take hx
    have hsz : SizeOf.sizeOf x.sels < N := by have := List.sizeOf_lt_of_mem (List.mem_of_getElem? hx); obtain ⟨a0, a1, a2, a3, a4, a5, a6⟩ := x; simp at this hN ⊢; omega
    have hlc : (encR .no (tSelS (allS (xs.take i)))).length = cntS (xs.take i) * 7 := by rw [encSelS_len, allS_len]
    have hlc2 : (encR .no (tSelS (allS x.sels))).length = cntS x.sels * 7 := by rw [encSelS_len, allS_len]
    have hc1 := fun K => c_cloneSels [x] K (by simp [tSelS, szR]; omega)
    have hc2 := fun K => ih x.sels K (by omega) hsz
    have hsh : shareL (encL .of (tSel x)) = encL .no (tSel x) := by simp
    have hres : encR .no (tSelS (allS (xs.take i))) ++ (encL .no (tSel x) ++ encR .no (tSelS (allS x.sels))) = encR .no (tSelS (allS (xs.take (i + 1)))) := by
      rw [hal, tSelS_app, encR_app]; simp [tSelS, encR]
    have hcn : cntS (xs.take i) + 1 + cntS x.sels = cntS (xs.take (i + 1)) := by omega
    have wi : IntKind.i64.wrap ((i : Int) + 1) = (i + 1 : Nat) := by rw [wrap64 (by omega) (by omega)]; rfl
    obtain ⟨a0, a1, a2, a3, a4, a5, a6⟩ := x
    simp only [tSelS, encR, List.append_nil, List.length_singleton] at hc1
    dsimp only at hc2 hlc2 hcn
    simp only [tSel, encL_app, encL, encT, List.cons_append, List.nil_append, List.append_nil, Md.ow_no, Md.ow_of, tSelS_len, tArgS_len, tDirS_len] at ea hc1 hres
    generalize hL : encR .no (tSelS (allS (xs.take i))) = L at *
    simp -implicitDefEqProofs [hlt, ea, encSelS_len, wi]
    refine callK_of (hc1 _) ?_
    simp -implicitDefEqProofs [wi]
    refine ⟨by unfold maxLen; omega, by omega, ?_⟩
    refine callK_of (hc2 _) ?_
    simp -implicitDefEqProofs [wi, hlc2, hlc]
    rw [hcn, hres]
    refine ⟨by unfold maxLen; omega, by omega, ?_⟩
    exact ⟨xs.length - (i + 1), by omega, _, St.le_of (by simp) (by simp [St.trunc, look, mapV, mapC, killP]) rfl (by simp [St.trunc, mapC]), (hI _ _).2 ⟨i + 1, by omega, rfl, rfl⟩⟩
  · have e : i = xs.length := by omega
    subst e
    rw [List.take_of_length_le (Nat.le_refl _)]
    simp -implicitDefEqProofs
theorem c_AllSels (xs : List DSel) (K) (hs : xs.length + szR (tSelS xs) ≤ 1048576) : Ct Try.prog 45 [.sl .no xs.length (encR .no (tSelS xs))] K (.sl (.of 57) (cntS xs) (encR .no (tSelS (allS xs)))) K := c_AllSels_rec _ xs K hs (Nat.lt_succ_self _)
theorem encStr_app {m : Md} {a : List Bs} {x : Bs} : encR m (tStrS (a ++ [x])) = encR m (tStrS a) ++ [.str x] := by simp [encStr']
theorem c_SpreadsIn (xs : List DSel) (K) (hs : xs.length + szR (tSelS xs) ≤ 1048576) : Ct Try.prog 28 [.sl .no xs.length (encR .no (tSelS xs))] K (.sl (.of 9) (spreads xs).length (encR .of (tStrS (spreads xs)))) K := by
  generalize hr : spreads xs = r
  unfold spreads at hr
  refine ct_fn { n0 := 6, ex := [10, 11, 12], tk := [7, 8, 23, 26, 29, 30, 32] } Try.func28 rfl (by kernel_rfl) (by kernel_rfl) rfl ?_
  simp -implicitDefEqProofs [Try.f28]
  refine callK_of (c_tooMuch xs _ hs) ?_
  simp -implicitDefEqProofs
  refine ⟨fun ht => ?_, fun ht => ?_⟩
  · rw [if_pos ht] at hr
    subst hr
    simp [tStrS, encR]
  · rw [if_neg (by simp [ht])] at hr
    have hcn : cntS xs ≤ 120 := by simp only [tooMany, decide_eq_false_iff_not] at ht; omega
    have hal := allS_len xs
    refine callK_of (c_AllSels xs _ hs) ?_
    generalize allS xs = all at *
    rw [← hal] at hcn
    rw [← hal]
    simp -implicitDefEqProofs
    intro h1
    obtain ⟨I, hI⟩ : ∃ I : Nat → St → Prop, ∀ m s, I m s ↔ ∃ (i : Nat) (out : List Bs), i ≤ all.length ∧ m = all.length - i ∧ out = sprd [] (all.take i) ∧
      s = { env := [(0, .sl .no xs.length (encR .no (tSelS xs))), (2, .sl .nil 0 []), (3, .sl (.of 9) out.length (encR .of (tStrS out))), (10, .sl (.of 57) all.length (encR .no (tSelS all))), (11, .int .i64 all.length), (12, .int .i64 i)], loc := [], K := [] :: K } := ⟨_, fun _ _ => Iff.rfl⟩
    refine wC_loopI I all.length ((hI _ _).2 ⟨0, [], by omega, rfl, rfl, rfl⟩) (St.le_of (by simp) (by simp [tStrS, encR]) rfl rfl) ?_
    intro m s hm
    obtain ⟨i, out, hi, rfl, ho, rfl⟩ := (hI _ _).1 hm
    have hlo := sprd_len (xs := all.take i) (out := [])
    rw [← ho, List.length_take, Nat.min_eq_left hi] at hlo
    simp only [List.length_nil] at hlo
    rcases Nat.lt_or_ge i all.length with hlt | hge
    · obtain ⟨x, hx⟩ : ∃ x, all[i]? = some x := ⟨_, List.getElem?_eq_getElem hlt⟩
      have ea := atSel (m := .no) hx
      have hnx := sprd_take (out := []) hx
      rw [← ho] at hnx
      have wi : IntKind.i64.wrap ((i : Int) + 1) = (i + 1 : Nat) := by rw [wrap64 (by omega) (by omega)]; rfl
      obtain ⟨a0, a1, a2, a3, a4, a5, a6⟩ := x
      dsimp only at hnx
      simp only [tSel, encL_app, encL, encT, List.cons_append, List.nil_append, List.append_nil, Md.ow_no, Md.ow_of, tSelS_len, tArgS_len, tDirS_len] at ea
      simp -implicitDefEqProofs [hlt, ea, encSelS_len, wi]
      refine callK_still (fun _ => c_ContainsStr out a2 _) ?_
      simp -implicitDefEqProofs [wi]
      refine ⟨fun h2 h3 => ⟨by unfold maxLen; omega, by omega, ?_⟩, fun h2 => ?_⟩
      · rw [if_pos ⟨h2, h3⟩] at hnx
        rw [← encStr_app]
        exact ⟨all.length - (i + 1), by omega, _, St.le_of (by simp) (by simp [St.trunc, look, mapV, mapC, killP]) rfl (by simp [St.trunc, mapC]), (hI _ _).2 ⟨i + 1, out ++ [a2], by omega, rfl, hnx.symm, rfl⟩⟩
      · rw [if_neg (fun h => h.2 (h2 h.1))] at hnx
        exact ⟨all.length - (i + 1), by omega, _, St.le_of (by simp) (by simp [St.trunc, look, mapV, mapC, killP]) rfl (by simp [St.trunc, mapC]), (hI _ _).2 ⟨i + 1, out, by omega, rfl, hnx.symm, rfl⟩⟩
    · have e : i = all.length := by omega
      subst e
      rw [List.take_of_length_le (Nat.le_refl _), hr] at ho
      subst ho
      simp -implicitDefEqProofs
theorem c_SpreadsInS (xs : List DSel) (K) (hs : xs.length + szR (tSelS xs) ≤ 1048576) : Ct Try.prog 19 [.sl .no xs.length (encR .no (tSelS xs))] K (.sl (.of 9) (spreads xs).length (encR .of (tStrS (spreads xs)))) K := by
  generalize hr : spreads xs = r
  unfold spreads at hr
  refine ct_fn { n0 := 6, ex := [], tk := [6, 8, 9, 11, 12, 32, 35, 41, 42, 43] } Try.func19 rfl (by kernel_rfl) (by kernel_rfl) rfl ?_
  simp -implicitDefEqProofs [Try.f19]
  refine callK_of (c_l25Many xs _ hs) ?_
  simp -implicitDefEqProofs
  refine ⟨fun ht => ?_, fun ht => ?_⟩
  · rw [if_pos ht] at hr
    subst hr
    simp [tStrS, encR]
  · rw [if_neg (by simp [ht])] at hr
    have hcn : cntS xs ≤ 120 := by simp only [tooMany, decide_eq_false_iff_not] at ht; omega
    have hal := allS_len xs
    have hc := fun K => c_l11All _ xs [] 0 K rfl (by omega) (Nat.lt_succ_self _)
    simp only [List.nil_append, Nat.zero_add, tSelS, encR] at hc
    generalize allS xs = all at *
    rw [← hal] at hcn hc
    refine callK_of (hc _) ?_
    simp -implicitDefEqProofs
    obtain ⟨I, hI⟩ : ∃ I : Nat → St → Prop, ∀ m s, I m s ↔ ∃ (i : Nat) (out : List Bs), i ≤ all.length ∧ m = all.length - i ∧ out = sprd [] (all.take i) ∧
      s = { env := [(0, .sl .no xs.length (encR .no (tSelS xs))), (2, .sl .nil 0 []), (3, .sl (.of 9) out.length (encR .of (tStrS out))), (4, .sl (.of 57) all.length (encR .no (tSelS all))), (5, .int .i64 i)], loc := [], K := [] :: K } := ⟨_, fun _ _ => Iff.rfl⟩
    refine wC_loopI I all.length ((hI _ _).2 ⟨0, [], by omega, rfl, rfl, rfl⟩) (St.le_of (by simp) (by simp [tStrS, encR]) rfl rfl) ?_
    intro m s hm
    obtain ⟨i, out, hi, rfl, ho, rfl⟩ := (hI _ _).1 hm
    have hlo := sprd_len (xs := all.take i) (out := [])
    rw [← ho, List.length_take, Nat.min_eq_left hi] at hlo
    simp only [List.length_nil] at hlo
    rcases Nat.lt_or_ge i all.length with hlt | hge
    · obtain ⟨x, hx⟩ : ∃ x, all[i]? = some x := ⟨_, List.getElem?_eq_getElem hlt⟩
      have ea := atSel (m := .no) hx
      have hnx := sprd_take (out := []) hx
      rw [← ho] at hnx
      have wi : IntKind.i64.wrap ((i : Int) + 1) = (i + 1 : Nat) := by rw [wrap64 (by omega) (by omega)]; rfl
      obtain ⟨a0, a1, a2, a3, a4, a5, a6⟩ := x
      dsimp only at hnx
      simp only [tSel, encL_app, encL, encT, List.cons_append, List.nil_append, List.append_nil, Md.ow_no, Md.ow_of, tSelS_len, tArgS_len, tDirS_len] at ea
      simp -implicitDefEqProofs [hlt, ea, encSelS_len, wi]
      intro h1
      refine callK_still (fun _ => c_l18Has out a2 _) ?_
      simp -implicitDefEqProofs [hlt, ea, encSelS_len, wi]
      refine ⟨fun h2 h3 => ⟨by unfold maxLen; omega, by omega, ?_⟩, fun h2 => ?_⟩
      · rw [if_pos ⟨h2, h3⟩] at hnx
        rw [← encStr_app]
        exact ⟨all.length - (i + 1), by omega, _, St.le_of (by simp) (by simp [St.trunc, look, mapV, mapC, killP]) rfl (by simp [St.trunc, mapC]), (hI _ _).2 ⟨i + 1, out ++ [a2], by omega, rfl, hnx.symm, rfl⟩⟩
      · rw [if_neg (fun h => h.2 (h2 h.1))] at hnx
        exact ⟨all.length - (i + 1), by omega, _, St.le_of (by simp) (by simp [St.trunc, look, mapV, mapC, killP]) rfl (by simp [St.trunc, mapC]), (hI _ _).2 ⟨i + 1, out, by omega, rfl, hnx.symm, rfl⟩⟩
    · have e : i = all.length := by omega
      subst e
      rw [List.take_of_length_le (Nat.le_refl _), hr] at ho
      subst ho
      simp -implicitDefEqProofs
end Go.Proofs.Ytkpdlbidadcdjaa.Abs
