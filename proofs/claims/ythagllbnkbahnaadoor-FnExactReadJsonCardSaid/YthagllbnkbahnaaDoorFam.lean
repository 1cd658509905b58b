/- PRINTED by fam.py: what the laws do with data. No condition. -/
import Derived.Test.YthagllbnkbahnaaDoorFStr
set_option linter.unusedVariables false
set_option linter.unusedSimpArgs false
namespace Go.Proofs.YthagllbnkbahnaaDoor.Abs
open Go
set_option maxHeartbeats 2000000
set_option maxRecDepth 100000
theorem c_eqJson_rec : ∀ N : Nat, (∀ (a b : DJson) (K : List (List (List AC))) (hN : SizeOf.sizeOf a < N), Ct Tryd.prog 6 [.agg (encL .no (tJson a)), .agg (encL .no (tJson b))] K (.bool (eqB a b)) K) ∧ (∀ (xs ys : List DJson) (K : List (List (List AC))) (hN : SizeOf.sizeOf xs < N), Ct Tryd.prog 14 [.sl .no xs.length (encR .no (tJsonS xs)), .sl .no ys.length (encR .no (tJsonS ys))] K (.bool (eqB xs ys)) K) := by
  intro N
  induction N with
  | zero => exact ⟨fun a => by intros; omega, fun xs => by intros; omega⟩
  | succ N ih =>
  refine ⟨?_, ?_⟩
  · intro a b K hN
    obtain ⟨x0, x1, x2, x3⟩ := a
    obtain ⟨y0, y1, y2, y3⟩ := b
    refine ct_fn { n0 := 5, ex := [], tk := [] } Tryd.func6 rfl (by kernel_rfl) (by kernel_rfl) rfl ?_
    simp -implicitDefEqProofs [Tryd.f6, tJson, encL_app, encL, encT, szL, szT]
    refine ⟨fun h => eqB_ne fun e => h (by cases e; rfl), fun h0 => ?_⟩
    refine ⟨fun h => eqB_ne fun e => h (by cases e; rfl), fun h1 => ?_⟩
    refine callK_of (ih.2 x2 y2 _ (by simp at hN; omega)) ?_
    simp -implicitDefEqProofs
    refine ⟨fun h => eqB_ne fun e => (by cases e; rw [eqB_self] at h; cases h), fun h2 => ?_⟩
    rw [eqB_iff] at h2
    refine callK_of (c_eqStringS x3 y3 _) ?_
    simp -implicitDefEqProofs
    refine ⟨fun h => eqB_ne fun e => (by cases e; rw [eqB_self] at h; cases h), fun h3 => ?_⟩
    rw [eqB_iff] at h3
    rw [eqB_iff]
    try cases h0
    try cases h1
    try cases h2
    try cases h3
    rfl
  · intro xs ys K hN
    refine ct_fn { n0 := 6, ex := [], tk := [] } Tryd.func14 rfl (by kernel_rfl) (by kernel_rfl) rfl ?_
    simp -implicitDefEqProofs [Tryd.f14]
    intro h1 h2
    refine ⟨fun h => eqB_ne fun e => h (by rw [e]), fun hlen => ?_⟩
    refine wC_loop (fun m s => ∃ i, i ≤ xs.length ∧ m = xs.length - i ∧ xs.take i = ys.take i ∧
      s = { env := [(0, .sl .no xs.length (encR .no (tJsonS xs))), (1, .sl .no ys.length (encR .no (tJsonS ys))), (4, .bool false), (5, .int .i64 i)], loc := [], K := [] :: K }) xs.length _
      (St.le_of (by simp) (by simp) rfl rfl) ⟨0, by omega, rfl, by simp, rfl⟩ ?_
    rintro m _ ⟨i, hi, rfl, hz, rfl⟩
    rcases Nat.lt_or_ge i xs.length with hlt | hge
    · obtain ⟨x, hx⟩ : ∃ x, xs[i]? = some x := ⟨_, List.getElem?_eq_getElem hlt⟩
      obtain ⟨z, hz2⟩ : ∃ x, ys[i]? = some x := ⟨_, List.getElem?_eq_getElem (by omega)⟩
      have ea := atJson (m := .no) hx
      have eb := atJson (m := .no) hz2
      have hek := encL_len (m := .no) (r := tJson x)
      have hek2 := encL_len (m := .no) (r := tJson z)
      rw [tJson_len] at hek hek2
      have hc := fun K => ih.1 x z K (by have := List.sizeOf_lt_of_mem (List.mem_of_getElem? hx); omega)
      have htk : (encL .no (tJson x)).take 4 = encL .no (tJson x) := List.take_of_length_le (by omega)
      have htk2 : (encL .no (tJson z)).take 4 = encL .no (tJson z) := List.take_of_length_le (by omega)
      simp -implicitDefEqProofs [hlt, ea, eb, hek, hek2, htk, htk2, encJsonS_len]
      intro _
      refine wRun_draw true rfl (by decide +kernel) ?_
      simp -implicitDefEqProofs [hlt, ea, eb, hek, hek2, htk, htk2, encJsonS_len]
      refine ⟨by omega, ?_⟩
      refine callK_of (hc _) ?_
      simp -implicitDefEqProofs
      refine ⟨fun h3 => eqB_ne fun e => (by rw [e, hz2] at hx; cases hx; rw [eqB_self] at h3; cases h3), fun h3 => ?_⟩
      rw [eqB_iff] at h3
      subst h3
      unfold maxLen at *
      simp (disch := omega) only [wrap64]
      refine ⟨xs.length - (i + 1), by omega, _, St.le_of (by simp) ?_ rfl (by simp [St.trunc]), i + 1, by omega, rfl, ?_, rfl⟩
      · simp [St.trunc, look, mapV, mapC]
      · rw [List.take_add_one, List.take_add_one, hz, hx, hz2]
    · have e : i = xs.length := by omega
      subst e
      simp -implicitDefEqProofs
      intro _
      refine (eqB_iff.2 ?_)
      rw [List.take_of_length_le (by omega), List.take_of_length_le (by omega)] at hz
      exact hz
theorem c_eqJson (a b : DJson) (K) : Ct Tryd.prog 6 [.agg (encL .no (tJson a)), .agg (encL .no (tJson b))] K (.bool (eqB a b)) K := (c_eqJson_rec _).1 a b K (Nat.lt_succ_self _)
theorem c_eqJsonS (xs ys : List DJson) (K) : Ct Tryd.prog 14 [.sl .no xs.length (encR .no (tJsonS xs)), .sl .no ys.length (encR .no (tJsonS ys))] K (.bool (eqB xs ys)) K := (c_eqJson_rec _).2 xs ys K (Nat.lt_succ_self _)
end Go.Proofs.YthagllbnkbahnaaDoor.Abs
