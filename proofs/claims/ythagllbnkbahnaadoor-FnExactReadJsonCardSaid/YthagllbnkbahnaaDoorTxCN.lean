/- How much a Json that was read holds. No condition. -/
import Derived.Test.YthagllbnkbahnaaDoorTxRJ
import Derived.Test.YthagllbnkbahnaaDoorMarkJ
set_option linter.unusedVariables false
set_option linter.unusedSimpArgs false
namespace Go.Proofs.YthagllbnkbahnaaDoor.Abs
open Go
set_option maxRecDepth 100000
theorem cnF_json (k : Int) (t : Bs) (items : List DJson) (names : List Bs) : cnF (tJson ⟨k, t, items, names⟩) = cnR (tJsonS items) + cnR (tStrS names) := by simp [tJson, cnF]
theorem cnR_json1 (items : List DJson) (x : DJson) : cnR (tJsonS (items ++ [x])) = cnR (tJsonS items) + 2 + cnF (tJson x) := by
  obtain ⟨k, t, is, ns⟩ := x
  simp [tJsonS_app, cnR_app, tJsonS, cnR, tJson, cnL, cnT, cnF]; omega
theorem cnR_str1 (names : List Bs) (t : Bs) : cnR (tStrS (names ++ [t])) = cnR (tStrS names) + 1 := by
  simp [tStrS_app, cnR_app, tStrS, cnR, cnL, cnT]
theorem cnF_leafI {s : Bs} {a : Nat} {j : DJson} {e : Nat} (h : leafI s a = some (j, e)) : cnF (tJson j) = 0 := by
  have z : ∀ k t, cnF (tJson ⟨k, t, [], []⟩) = 0 := fun k t => by rw [cnF_json]; simp [tJsonS, tStrS, cnR]
  unfold leafI at h
  split at h
  · cases h; exact z _ _
  · split at h
    · cases h; exact z _ _
    · split at h
      · cases h; exact z _ _
      · split at h
        · cases h; exact z _ _
        · cases h
theorem rd_cn : ∀ n : Nat,
    (∀ s a d j e, a ≤ s.length → rdJ leafI n s a d = some (j, e) → a ≤ e ∧ e ≤ s.length ∧ cnF (tJson j) ≤ 3 * (e - a)) ∧ (∀ s a obj d j e, a ≤ s.length → rdP leafI n s a obj d = some (j, e) → a ≤ e ∧ e ≤ s.length ∧ cnF (tJson j) ≤ 3 * (e - a)) ∧
    (∀ s a obj d names items j e, a ≤ s.length → rdL leafI n s a obj d names items = some (j, e) → a ≤ e ∧ e ≤ s.length ∧ cnF (tJson j) ≤ cnR (tJsonS items) + cnR (tStrS names) + 3 * (e - a)) := by
  have z : ∀ k t, cnF (tJson ⟨k, t, [], []⟩) = 0 := fun k t => by rw [cnF_json]; simp [tJsonS, tStrS, cnR]
  intro n; induction n with
  | zero => exact ⟨fun s a d j e _ h => by simp [rdJ] at h, fun s a obj d j e _ h => by simp [rdP] at h, fun s a obj d names items j e _ h => by simp [rdL] at h⟩
  | succ n ih =>
    obtain ⟨i1, i2, i3⟩ := ih
    refine ⟨fun s a d j e ha h => ?_, fun s a obj d j e ha h => ?_, fun s a obj d names items j e ha h => ?_⟩
    · have hp := pass_le ha
      have hg := pass_ge s a
      rw [rdJ] at h
      split at h
      · cases h
      · next b hb =>
        have hbl := (List.getElem?_eq_some_iff.1 hb).1
        split at h
        · cases hr : rdStr s (pass s a) with
          | none => rw [hr] at h; cases h
          | some x =>
            rw [hr] at h
            simp only [Option.map_some, Option.some.injEq, Prod.mk.injEq] at h
            have := rdStr_bnd (t := x.1) (e := x.2) hr
            obtain ⟨rfl, rfl⟩ := h
            rw [z]; omega
        · split at h
          · split at h
            · cases h
            · have := i2 _ _ _ _ _ _ (by omega) h; omega
          · have := leafI_bnd hp h; have := cnF_leafI h; omega
    · have hp := pass_le ha
      have hg := pass_ge s a
      rw [rdP] at h
      split at h
      · next h1 =>
        have := (List.getElem?_eq_some_iff.1 h1).1
        simp only [Option.some.injEq, Prod.mk.injEq] at h
        obtain ⟨rfl, rfl⟩ := h
        rw [z]; omega
      · have := i3 _ _ _ _ _ _ _ _ ha h
        simpa [tJsonS, tStrS, cnR] using this
    · rw [rdL_eq] at h
      split at h
      · cases h
      · next names' a' hN =>
        have hb := rdN_bnd ha hN
        have hnm : a ≤ a' ∧ cnR (tStrS names') + 3 * a ≤ cnR (tStrS names) + 3 * a' := by
          unfold rdN at hN
          cases obj with
          | false =>
            simp only [Bool.false_eq_true, if_false, Option.some.injEq, Prod.mk.injEq] at hN
            obtain ⟨rfl, rfl⟩ := hN; omega
          | true =>
            simp only [if_true] at hN
            split at hN
            · cases hN
            · next t e0 hS =>
              have h3 := rdStr_bnd hS
              have h4 := pass_ge s a
              have h5 := pass_ge s e0
              split at hN
              · simp only [Option.some.injEq, Prod.mk.injEq] at hN
                obtain ⟨rfl, rfl⟩ := hN
                rw [cnR_str1]; omega
              · cases hN
        split at h
        · cases h
        · next x e0 hJ =>
          have hb2 := i1 _ _ _ _ _ hb.2 hJ
          have hg := pass_ge s e0
          have hx := cnR_json1 items x
          split at h
          · next h1 =>
            have := (List.getElem?_eq_some_iff.1 h1).1
            simp only [Option.some.injEq, Prod.mk.injEq] at h
            obtain ⟨rfl, rfl⟩ := h
            rw [cnF_json, hx]; omega
          · split at h
            · next h1 =>
              have h2 := (List.getElem?_eq_some_iff.1 h1).1
              have := i3 _ _ _ _ _ _ _ _ (by omega) h; omega
            · cases h
theorem bnd_readI (s : Bs) : cnF (tJson (readI s).1) ≤ 180000 := by
  have z : cnF (tJson zJ) = 0 := by unfold zJ; rw [cnF_json]; simp [tJsonS, tStrS, cnR]
  unfold readI
  split
  · rw [z]; omega
  · split
    · next hl h1 =>
      have hI := prJ_rd (s := s) 20 0 (by omega) (3 * s.length + 1) (by omega)
      cases cI : rdJ leafI (3 * s.length + 1) s 0 20 with
      | none => rw [cI] at hI; have hI : (prJ 20 s 0).2.2 = true := hI; rw [hI] at h1; exact absurd h1.1 (by simp)
      | some x =>
        rw [cI] at hI
        have hI : prJ 20 s 0 = (x.1, x.2, false) := hI
        have := (rd_cn _).1 s 0 20 x.1 x.2 (by omega) cI
        rw [hI]; simp only; omega
    · rw [z]; omega
end Go.Proofs.YthagllbnkbahnaaDoor.Abs
