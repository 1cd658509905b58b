/- Copies: slices.Clone, cloneValue, cloneArgs, cloneDirs, cloneSels. No condition. -/
import Derived.Test.YthagllbnkbahnaaGreatFStr
import Derived.Test.YthagllbnkbahnaaGreatLend
set_option linter.unusedVariables false
set_option linter.unusedSimpArgs false
namespace Go.Proofs.YthagllbnkbahnaaGreat.Abs
open Go
set_option maxHeartbeats 1000000
set_option maxRecDepth 100000
theorem encStr' {m : Md} : ∀ {xs : List Bs}, encR m (tStrS xs) = xs.map AC.str := by
  intro xs; induction xs with
  | nil => rfl
  | cons x xs ih => simp [tStrS, encR, encL, encT, ih]
theorem c_CloneStr (xs : List Bs) (K) (hs : xs.length ≤ 1048576) : Ct Tryz.prog 148 [.sl .no xs.length (encR .no (tStrS xs))] K (.sl (.of 9) xs.length (encR .of (tStrS xs))) K := by
  refine ct_fn { n0 := 3, ex := [], tk := [5, 7] } Tryz.func148 rfl (by kernel_rfl) (by kernel_rfl) rfl ?_
  simp -implicitDefEqProofs [Tryz.f148]
  refine ⟨⟨by unfold maxLen; omega, by omega, by simp [encStr'], by simp [encStr']⟩, fun h => by subst h; exact .nil⟩
/-- A list in a box, that may be nil. -/
def chl (e : TypeId) (n : Nat) (cs : List AC) : AC := if n = 0 then .sl .nil 0 [] else .sl (.of e) n cs
theorem chl_nil {e : TypeId} {cs : List AC} : chl e 0 cs = .sl .nil 0 [] := rfl
theorem chl_ne {e : TypeId} {n : Nat} {cs : List AC} (h : n ≠ 0) : chl e n cs = .sl (.of e) n cs := if_neg h
theorem chl_le {e : TypeId} {n : Nat} {cs : List AC} (h : n = 0 → cs = []) : (chl e n cs).le (.sl (.of e) n cs) := by
  by_cases h0 : n = 0
  · have := h h0; subst h0; subst this; exact .nil
  · rw [chl_ne h0]; exact .refl
theorem killP_chl {k : Nat} {e : TypeId} {n : Nat} {cs : List AC} : killP k (chl e n cs) = chl e n cs := by unfold chl; split <;> rfl
theorem mapC_chl {g : AC → AC} {e : TypeId} {n : Nat} {cs : List AC} : mapC g (chl e n cs) = chl e n cs := by unfold chl; split <;> rfl
attribute [simp ↓] killP_chl mapC_chl
theorem nextValue {m : Md} {xs : List DValue} {i : Nat} {x : DValue} (h : xs[i]? = some x) : encR m (tValueS (xs.take (i + 1))) = encR m (tValueS (xs.take i)) ++ encL m (tValue x) := by
  rw [List.take_add_one, h, tValueS_app, encR_app]; simp [tValueS, encR]
theorem nextArg {m : Md} {xs : List DArg} {i : Nat} {x : DArg} (h : xs[i]? = some x) : encR m (tArgS (xs.take (i + 1))) = encR m (tArgS (xs.take i)) ++ encL m (tArg x) := by
  rw [List.take_add_one, h, tArgS_app, encR_app]; simp [tArgS, encR]
theorem nextDir {m : Md} {xs : List DDir} {i : Nat} {x : DDir} (h : xs[i]? = some x) : encR m (tDirS (xs.take (i + 1))) = encR m (tDirS (xs.take i)) ++ encL m (tDir x) := by
  rw [List.take_add_one, h, tDirS_app, encR_app]; simp [tDirS, encR]
theorem nextSel {m : Md} {xs : List DSel} {i : Nat} {x : DSel} (h : xs[i]? = some x) : encR m (tSelS (xs.take (i + 1))) = encR m (tSelS (xs.take i)) ++ encL m (tSel x) := by
  rw [List.take_add_one, h, tSelS_app, encR_app]; simp [tSelS, encR]
theorem c_cloneValue_rec : ∀ N : Nat, ∀ (v : DValue) (K : List (List (List AC))) (hs : szL (tValue v) ≤ 1048576) (hN : SizeOf.sizeOf v < N), Ct Tryz.prog 123 [.agg (encL .no (tValue v))] K (.agg (encL .of (tValue v))) K := by
  intro N
  induction N with
  | zero => intros; omega
  | succ N ih =>
  intro v K hs hN
  obtain ⟨x0, x1, x2, x3⟩ := v
  simp only [tValue, szL, szT, tValueS_len, tStrS_len] at hs
  refine ct_fn { n0 := 6, ex := [15, 16, 17], tk := [12, 13, 22, 24, 25, 26, 29] } Tryz.func123 rfl (by kernel_rfl) (by kernel_rfl) rfl ?_
  simp -implicitDefEqProofs [Tryz.f123, tValue, encL_app, encL, encT]
  refine wRun_drawQ [(12, .sl (.of 9) x3.length (encR .of (tStrS x3)))] [12] rfl (by decide +kernel) ?_
  simp -implicitDefEqProofs
  refine quietK_of (fun K => c_CloneStr x3 K (by omega)) ?_
  intro h1
  obtain ⟨I, hI⟩ : ∃ I : Nat → St → Prop, ∀ m s, I m s ↔ ∃ i, i ≤ x2.length ∧ m = x2.length - i ∧
    s = { env := [(0, .agg [.int .i64 x0, .str x1, .sl .no x2.length (encR .no (tValueS x2)), .sl .no x3.length (encR .no (tStrS x3))]), (1, .ptr 0 0 0), (2, .ptr 0 1 0), (3, .ptr 0 2 0), (15, .sl .no x2.length (encR .no (tValueS x2))), (16, .int .i64 x2.length), (17, .int .i64 i)], loc := [],
          K := [[.int .i64 x0, .str x1, .sl .no x2.length (encR .no (tValueS x2)), .sl .no x3.length (encR .no (tStrS x3))], [.int .i64 0, .str [], .sl .nil 0 [], .sl .nil 0 []],
            [.int .i64 x0, .str x1, chl 122 i (encR .of (tValueS (x2.take i))), .sl (.of 9) x3.length (encR .of (tStrS x3))]] :: K } := ⟨_, fun _ _ => Iff.rfl⟩
  refine wC_loopI I x2.length ((hI _ _).2 ⟨0, by omega, rfl, rfl⟩) (St.le_of (by simp) (by simp) rfl (by simp [chl_nil])) ?_
  intro m s hm
  obtain ⟨i, hi, rfl, rfl⟩ := (hI _ _).1 hm
  rcases Nat.lt_or_ge i x2.length with hlt | hge
  · obtain ⟨x, hx⟩ : ∃ x, x2[i]? = some x := ⟨_, List.getElem?_eq_getElem hlt⟩
    have ea := atValue (m := .no) hx
    have hn := nextValue (m := .of) hx
    have es := szR_get (tValueS_get hx)
    have el := szR_take_le (rs := tValueS x2) (i + 1)
    have hc := fun K => ih x K (by omega) (by have := List.sizeOf_lt_of_mem (List.mem_of_getElem? hx); simp at hN; omega)
    have hl : (encR .of (tValueS (x2.take i))).length = i * 4 := by rw [encValueS_len, List.length_take, Nat.min_eq_left hi]
    obtain ⟨v0, v1, v2, v3⟩ := x
    simp only [tValue, encL_app, encL, encT, List.cons_append, List.nil_append, Md.ow_no, Md.ow_of, tStrS_len, tValueS_len] at hc ea hn
    have fin : chl 122 (i + 1) (encR .of (tValueS (x2.take (i + 1)))) = .sl (.of 122) (i + 1) (encR .of (tValueS (x2.take (i + 1)))) := chl_ne (by omega)
    rcases Nat.eq_zero_or_pos i with h0 | h0
    · have hc0 : chl 122 i (encR .of (tValueS (x2.take i))) = .sl .nil 0 [] := by rw [h0]; rfl
      have hn0 : encR .of (tValueS (x2.take i)) = [] := by rw [h0]; simp [tValueS, encR]
      rw [hn0, List.nil_append] at hn
      simp -implicitDefEqProofs [hlt, ea, encValueS_len, hc0]
      refine wRun_drawQ [(24, .agg [.int .i64 v0, .str v1, .sl (.of 122) v2.length (encR .of (tValueS v2)), .sl (.of 9) v3.length (encR .of (tStrS v3))])] [24] rfl (by decide +kernel) ?_
      simp -implicitDefEqProofs
      refine quietK_of hc ⟨by unfold maxLen; omega, ?_⟩
      rw [← hn]
      unfold maxLen at *
      simp (disch := omega) only [wrap64]
      have e1 : i + 1 = 1 := by omega
      exact ⟨x2.length - (i + 1), by omega, _, St.le_of (by simp) (by simp [St.trunc, look, mapV, mapC, killP]) rfl (by rw [fin, e1]; simp [St.trunc, mapC, killP]), (hI _ _).2 ⟨i + 1, by omega, rfl, rfl⟩⟩
    · have h0' : i ≠ 0 := by omega
      simp -implicitDefEqProofs [hlt, ea, encValueS_len, chl_ne h0']
      refine wRun_drawQ [(24, .agg [.int .i64 v0, .str v1, .sl (.of 122) v2.length (encR .of (tValueS v2)), .sl (.of 9) v3.length (encR .of (tStrS v3))])] [24] rfl (by decide +kernel) ?_
      simp -implicitDefEqProofs
      refine quietK_of hc ⟨by unfold maxLen; omega, by omega, ?_⟩
      rw [← hn]
      unfold maxLen at *
      simp (disch := omega) only [wrap64]
      exact ⟨x2.length - (i + 1), by omega, _, St.le_of (by simp) (by simp [St.trunc, look, mapV, mapC, killP]) rfl (by rw [fin]; simp [St.trunc, mapC, killP]), (hI _ _).2 ⟨i + 1, by omega, rfl, rfl⟩⟩
  · have e : i = x2.length := by omega
    subst e
    rw [List.take_of_length_le (Nat.le_refl _)]
    rcases Nat.eq_zero_or_pos x2.length with h0 | h0
    · have h00 := List.eq_nil_of_length_eq_zero h0
      subst h00
      simp -implicitDefEqProofs [chl_nil, tValueS, encR]
      exact AC.le_agg (by simp)
    · have h0' : x2.length ≠ 0 := by omega
      simp -implicitDefEqProofs [chl_ne h0']
theorem c_cloneValue (v : DValue) (K) (hs : szL (tValue v) ≤ 1048576) : Ct Tryz.prog 123 [.agg (encL .no (tValue v))] K (.agg (encL .of (tValue v))) K := c_cloneValue_rec _ v K hs (Nat.lt_succ_self _)

theorem c_cloneArgs (xs : List DArg) (K) (hs : xs.length + szR (tArgS xs) ≤ 1048576) :
    Ct Tryz.prog 86 [.sl .no xs.length (encR .no (tArgS xs))] K (.sl (.of 124) xs.length (encR .of (tArgS xs))) K := by
  refine ct_fn { n0 := 6, ex := [6, 7, 8], tk := [12, 17, 18, 19, 20, 22] } Tryz.func86 rfl (by kernel_rfl) (by kernel_rfl) rfl ?_
  simp -implicitDefEqProofs [Tryz.f86]
  intro h1
  obtain ⟨I, hI⟩ : ∃ I : Nat → St → Prop, ∀ m s, I m s ↔ ∃ i, i ≤ xs.length ∧ m = xs.length - i ∧
    s = { env := [(0, .sl .no xs.length (encR .no (tArgS xs))), (2, .sl .nil 0 []), (3, .sl (.of 124) i (encR .of (tArgS (xs.take i)))), (6, .sl .no xs.length (encR .no (tArgS xs))), (7, .int .i64 xs.length), (8, .int .i64 i)], loc := [], K := [] :: K } := ⟨_, fun _ _ => Iff.rfl⟩
  refine wC_loopI I xs.length ((hI _ _).2 ⟨0, by omega, rfl, rfl⟩) (St.le_of (by simp) (by simp [tArgS, encR]) rfl rfl) ?_
  intro m s hm
  obtain ⟨i, hi, rfl, rfl⟩ := (hI _ _).1 hm
  rcases Nat.lt_or_ge i xs.length with hlt | hge
  · obtain ⟨x, hx⟩ : ∃ x, xs[i]? = some x := ⟨_, List.getElem?_eq_getElem hlt⟩
    have ea := atArg (m := .no) hx
    have es := szR_get (tArgS_get hx)
    have el := szR_take_le (rs := tArgS xs) (i + 1)
    have hz : szL (tArg x) = x.name.length + szL (tValue x.value) := by obtain ⟨a0, v0, v1, v2, v3⟩ := x; simp [tArg, tValue, szL, szT]
    have hc := fun K => c_cloneValue x.value K (by omega)
    have hn := nextArg (m := .of) hx
    have hl : (encR .of (tArgS (xs.take i))).length = i * 5 := by rw [encArgS_len, List.length_take, Nat.min_eq_left hi]
    obtain ⟨a0, a1⟩ := x
    obtain ⟨v0, v1, v2, v3⟩ := a1
    simp only [tArg, tValue, encL_app, encL, encT, List.cons_append, List.nil_append, Md.ow_no, Md.ow_of, tStrS_len, tValueS_len] at hc ea hn
    simp -implicitDefEqProofs [hlt, ea, encArgS_len]
    refine wRun_draw true rfl (by decide +kernel) ?_
    simp -implicitDefEqProofs
    refine callK_of (hc _) ?_
    simp -implicitDefEqProofs
    rw [← hn]
    refine ⟨by unfold maxLen; omega, by omega, ?_⟩
    unfold maxLen at *
    simp (disch := omega) only [wrap64]
    exact ⟨xs.length - (i + 1), by omega, _, St.le_of (by simp) (by simp [St.trunc, look, mapV, mapC, killP]) rfl (by simp [St.trunc, mapC]), (hI _ _).2 ⟨i + 1, by omega, rfl, rfl⟩⟩
  · have e : i = xs.length := by omega
    subst e
    rw [List.take_of_length_le (Nat.le_refl _)]
    simp -implicitDefEqProofs
theorem c_cloneDirs (xs : List DDir) (K) (hs : xs.length + szR (tDirS xs) ≤ 1048576) :
    Ct Tryz.prog 87 [.sl .no xs.length (encR .no (tDirS xs))] K (.sl (.of 132) xs.length (encR .of (tDirS xs))) K := by
  refine ct_fn { n0 := 6, ex := [6, 7, 8], tk := [12, 17, 18, 19, 20, 22] } Tryz.func87 rfl (by kernel_rfl) (by kernel_rfl) rfl ?_
  simp -implicitDefEqProofs [Tryz.f87]
  intro h1
  obtain ⟨I, hI⟩ : ∃ I : Nat → St → Prop, ∀ m s, I m s ↔ ∃ i, i ≤ xs.length ∧ m = xs.length - i ∧
    s = { env := [(0, .sl .no xs.length (encR .no (tDirS xs))), (2, .sl .nil 0 []), (3, .sl (.of 132) i (encR .of (tDirS (xs.take i)))), (6, .sl .no xs.length (encR .no (tDirS xs))), (7, .int .i64 xs.length), (8, .int .i64 i)], loc := [], K := [] :: K } := ⟨_, fun _ _ => Iff.rfl⟩
  refine wC_loopI I xs.length ((hI _ _).2 ⟨0, by omega, rfl, rfl⟩) (St.le_of (by simp) (by simp [tDirS, encR]) rfl rfl) ?_
  intro m s hm
  obtain ⟨i, hi, rfl, rfl⟩ := (hI _ _).1 hm
  rcases Nat.lt_or_ge i xs.length with hlt | hge
  · obtain ⟨x, hx⟩ : ∃ x, xs[i]? = some x := ⟨_, List.getElem?_eq_getElem hlt⟩
    have ea := atDir (m := .no) hx
    have es := szR_get (tDirS_get hx)
    have el := szR_take_le (rs := tDirS xs) (i + 1)
    have hz : szL (tDir x) = x.name.length + (x.args.length + szR (tArgS x.args)) := by obtain ⟨a0, a1⟩ := x; simp [tDir, szL, szT]
    have hc := fun K => c_cloneArgs x.args K (by omega)
    have hn := nextDir (m := .of) hx
    have hl : (encR .of (tDirS (xs.take i))).length = i * 2 := by rw [encDirS_len, List.length_take, Nat.min_eq_left hi]
    obtain ⟨a0, a1⟩ := x
    simp only [tDir, encL_app, encL, encT, List.cons_append, List.nil_append, Md.ow_no, Md.ow_of, tStrS_len, tArgS_len] at hc ea hn
    simp -implicitDefEqProofs [hlt, ea, encDirS_len]
    refine wRun_draw true rfl (by decide +kernel) ?_
    simp -implicitDefEqProofs
    refine callK_of (hc _) ?_
    simp -implicitDefEqProofs
    rw [← hn]
    refine ⟨by unfold maxLen; omega, by omega, ?_⟩
    unfold maxLen at *
    simp (disch := omega) only [wrap64]
    exact ⟨xs.length - (i + 1), by omega, _, St.le_of (by simp) (by simp [St.trunc, look, mapV, mapC, killP]) rfl (by simp [St.trunc, mapC]), (hI _ _).2 ⟨i + 1, by omega, rfl, rfl⟩⟩
  · have e : i = xs.length := by omega
    subst e
    rw [List.take_of_length_le (Nat.le_refl _)]
    simp -implicitDefEqProofs
theorem c_cloneSels_rec : ∀ N : Nat, ∀ (xs : List DSel) (K : List (List (List AC))) (hs : xs.length + szR (tSelS xs) ≤ 1048576) (hN : SizeOf.sizeOf xs < N),
    Ct Tryz.prog 48 [.sl .no xs.length (encR .no (tSelS xs))] K (.sl (.of 62) xs.length (encR .of (tSelS xs))) K := by
  intro N
  induction N with
  | zero => intros; omega
  | succ N ih =>
  intro xs K hs hN
  refine ct_fn { n0 := 6, ex := [6, 7, 8], tk := [14, 18, 22, 24, 25, 26, 27, 29] } Tryz.func48 rfl (by kernel_rfl) (by kernel_rfl) rfl ?_
  simp -implicitDefEqProofs [Tryz.f48]
  intro h1
  obtain ⟨I, hI⟩ : ∃ I : Nat → St → Prop, ∀ m s, I m s ↔ ∃ i, i ≤ xs.length ∧ m = xs.length - i ∧
    s = { env := [(0, .sl .no xs.length (encR .no (tSelS xs))), (2, .sl .nil 0 []), (3, .sl (.of 62) i (encR .of (tSelS (xs.take i)))), (6, .sl .no xs.length (encR .no (tSelS xs))), (7, .int .i64 xs.length), (8, .int .i64 i)], loc := [], K := [] :: K } := ⟨_, fun _ _ => Iff.rfl⟩
  refine wC_loopI I xs.length ((hI _ _).2 ⟨0, by omega, rfl, rfl⟩) (St.le_of (by simp) (by simp [tSelS, encR]) rfl rfl) ?_
  intro m s hm
  obtain ⟨i, hi, rfl, rfl⟩ := (hI _ _).1 hm
  rcases Nat.lt_or_ge i xs.length with hlt | hge
  · obtain ⟨x, hx⟩ : ∃ x, xs[i]? = some x := ⟨_, List.getElem?_eq_getElem hlt⟩
    have ea := atSel (m := .no) hx
    have es := szR_get (tSelS_get hx)
    have el := szR_take_le (rs := tSelS xs) (i + 1)
    have hz : szL (tSel x) = x.alias.length + x.name.length + x.on_.length + (x.args.length + szR (tArgS x.args)) + (x.dirs.length + szR (tDirS x.dirs)) + (x.sels.length + szR (tSelS x.sels)) := by obtain ⟨a0, a1, a2, a3, a4, a5, a6⟩ := x; simp [tSel, szL, szT]; omega
    have hc1 := fun K => c_cloneArgs x.args K (by omega)
    have hc2 := fun K => c_cloneDirs x.dirs K (by omega)
    have hc3 := fun K => ih x.sels K (by omega) (by have := List.sizeOf_lt_of_mem (List.mem_of_getElem? hx); obtain ⟨a0, a1, a2, a3, a4, a5, a6⟩ := x; simp at this ⊢; omega)
    have hn := nextSel (m := .of) hx
    have hl : (encR .of (tSelS (xs.take i))).length = i * 7 := by rw [encSelS_len, List.length_take, Nat.min_eq_left hi]
    obtain ⟨a0, a1, a2, a3, a4, a5, a6⟩ := x
    simp only [tSel, encL_app, encL, encT, List.cons_append, List.nil_append, Md.ow_no, Md.ow_of, tSelS_len, tArgS_len, tDirS_len] at hc1 hc2 hc3 ea hn
    simp -implicitDefEqProofs [hlt, ea, encSelS_len]
    refine callK_of (hc1 _) ?_
    simp -implicitDefEqProofs
    refine callK_of (hc2 _) ?_
    simp -implicitDefEqProofs
    refine callK_of (hc3 _) ?_
    simp -implicitDefEqProofs
    rw [← hn]
    refine ⟨by unfold maxLen; omega, by omega, ?_⟩
    unfold maxLen at *
    simp (disch := omega) only [wrap64]
    exact ⟨xs.length - (i + 1), by omega, _, St.le_of (by simp) (by simp [St.trunc, look, mapV, mapC, killP]) rfl (by simp [St.trunc, mapC]), (hI _ _).2 ⟨i + 1, by omega, rfl, rfl⟩⟩
  · have e : i = xs.length := by omega
    subst e
    rw [List.take_of_length_le (Nat.le_refl _)]
    simp -implicitDefEqProofs
theorem c_cloneSels (xs : List DSel) (K) (hs : xs.length + szR (tSelS xs) ≤ 1048576) :
    Ct Tryz.prog 48 [.sl .no xs.length (encR .no (tSelS xs))] K (.sl (.of 62) xs.length (encR .of (tSelS xs))) K := c_cloneSels_rec _ xs K hs (Nat.lt_succ_self _)
end Go.Proofs.YthagllbnkbahnaaGreat.Abs
