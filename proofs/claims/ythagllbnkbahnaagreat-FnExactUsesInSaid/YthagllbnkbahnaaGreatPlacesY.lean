/- PlacesOf: contracts. No condition. -/
import Derived.Test.YthagllbnkbahnaaGreatPlacesX
import Derived.Test.YthagllbnkbahnaaGreatClip
set_option linter.unusedVariables false
set_option linter.unusedSimpArgs false
namespace Go.Proofs.YthagllbnkbahnaaGreat.Abs
open Go
set_option maxHeartbeats 1000000
set_option maxRecDepth 100000
theorem plc_sz (ts : List DDef) : ∀ N : Nat, ∀ (xs : List DSel) (owner : Bs), SizeOf.sizeOf xs < N → ∀ p ∈ plcS ts owner xs, 1 + szL (tSel p.sel) ≤ xs.length + szR (tSelS xs) := by
  intro N
  induction N with
  | zero => intros; omega
  | succ N ih =>
    intro xs owner hN p hp
    cases xs with
    | nil => simp [plcS] at hp
    | cons x xs =>
      have h2 := ih xs owner (by simp at hN; omega)
      obtain ⟨k, a, n, o, args, dirs, sels⟩ := x
      have h1 := ih sels (belowN ts owner k n o) (by simp at hN; omega)
      simp only [plcS, plcX, List.mem_append, List.mem_cons] at hp
      simp only [tSelS, szR, List.length_cons, tSel, szL, szT, tArgS_len, tDirS_len, tSelS_len]
      rcases hp with (rfl | hp) | hp
      · simp only [tSel, szL, szT, tArgS_len, tDirS_len, tSelS_len, tSelS, szR, List.length_nil]; omega
      · have := h1 p hp; omega
      · have := h2 p hp; omega
theorem put_same {C : List AC} {n : Nat} {b c0 c1 c2 c3 c4 c5 c6 : AC} (h : (C.drop n).take 8 = [b, c0, c1, c2, c3, c4, c5, c6]) :
    C.take (n + 1) ++ c0 :: c1 :: c2 :: c3 :: c4 :: c5 :: c6 :: C.drop (n + 1 + 7) = C := by
  have h1 : C.drop n = [b, c0, c1, c2, c3, c4, c5, c6] ++ C.drop (n + 8) := by rw [← h, ← List.drop_drop, List.take_append_drop]
  have h2 : C.take (n + 1) = C.take n ++ [b] := by
    rw [List.take_add_one]
    have : C[n]? = some b := by have := congrArg (fun l : List AC => l[0]?) h1; simpa using this
    rw [this]; rfl
  rw [h2]
  conv => rhs; rw [← List.take_append_drop n C, h1]
  simp
theorem ct_nam1 {P : Program} {f : FuncId} {y : Value} {a : AC} {K K' : List (List (List AC))} {r : AC} (h : Ct P f [a] K r K') : Ct P f [.nam y a] K r K' := by
  refine ⟨h.1, ?_⟩
  intro w Pr bl vals La Lk hA hK hcnt hlt htab
  cases hA with
  | cons g1 g2 =>
    cases g1 with
    | nam g => exact h.2 w Pr bl _ _ _ (.cons g g2) hK hcnt hlt htab
theorem c_PlacesOf (s : DSchema) (owner : Bs) (xs : List DSel) (K) (hs : xs.length + szR (tSelS xs) ≤ 1048576) : Ct Tryz.prog 19 [.agg (encL .no (tSchema s)), .str owner, .sl .no xs.length (encR .no (tSelS xs))] K
    (.sl (.ex 65) (if tooMany xs then [] else plcS s.types owner xs).length (encR .no (tPlaceS (if tooMany xs then [] else plcS s.types owner xs)))) K := by
  have hct : tooMany xs = false → cntS xs ≤ 120 := by
    intro h
    rw [tooMany_cl] at h
    have h3 := (clS_ok xs 120).2.1
    simp only [decide_eq_false_iff_not] at h
    omega
  have hp := fun K h => c_placesOfX s owner xs K h
  obtain ⟨s0, s1, s2⟩ := s
  dsimp only at *
  simp only [tSchema, encL, encT, Md.ow_no, tDefS_len, tRootS_len] at hp
  refine ct_fn { n0 := 10, ex := [16, 17, 18], tk := [11, 15, 28, 34, 35], es := true } Tryz.func19 rfl (by kernel_rfl) (by kernel_rfl) rfl ?_
  simp -implicitDefEqProofs [Tryz.f19, tSchema, encL, encT]
  refine callK_of (c_tooMuch xs _ hs) ?_
  cases htm : tooMany xs with
  | true => simp -implicitDefEqProofs [tPlaceS, encR]
  | false =>
    simp -implicitDefEqProofs
    refine callK_of (hp _ (by have := hct htm; omega)) ?_
    simp -implicitDefEqProofs
    intro y hm
    have hsz := fun (p : DPlace) (hp : p ∈ plcS s0 owner xs) => plc_sz s0 _ xs owner (Nat.lt_succ_self _) p hp
    have hln := plcS_length s0 xs owner
    generalize plcS s0 owner xs = P at *
    obtain ⟨I, hI⟩ : ∃ I : Nat → St → Prop, ∀ m st, I m st ↔ ∃ i, i ≤ cntS xs ∧ m = cntS xs - i ∧
      st = { env := [(0, .agg [.sl .no s0.length (encR .no (tDefS s0)), .sl .no s1.length (encR .no (tDefS s1)), .sl .no s2.length (encR .no (tRootS s2))]), (1, .str owner), (2, .sl .no xs.length (encR .no (tSelS xs))), (3, .ptr 0 0 0), (6, .sl .nil 0 []), (7, .nam y (.sl (.ex 65) (cntS xs) (encR .no (tPlaceS P)))), (16, .als 7 none y (some (cntS xs))), (17, .int .i64 (cntS xs)), (18, .int .i64 i)], loc := [],
             K := [[.sl .no s0.length (encR .no (tDefS s0)), .sl .no s1.length (encR .no (tDefS s1)), .sl .no s2.length (encR .no (tRootS s2))]] :: K } := ⟨_, fun _ _ => Iff.rfl⟩
    refine wC_loopI I (cntS xs) ((hI _ _).2 ⟨0, by omega, rfl, rfl⟩) (St.le_of (by simp) (by simp) rfl rfl) ?_
    intro m st hst
    obtain ⟨i, hi, rfl, rfl⟩ := (hI _ _).1 hst
    rcases Nat.lt_or_ge i (cntS xs) with hlt | hge
    · obtain ⟨x, hx⟩ : ∃ x, P[i]? = some x := ⟨_, List.getElem?_eq_getElem (by omega)⟩
      have ea := atPlace (m := .no) hx
      have hsx := hsz x (List.mem_of_getElem? hx)
      have w2 : IntKind.i64.wrap ((i : Int) + 1) = (i + 1 : Nat) := by
        have := hct htm
        rw [wrap64 (by omega) (by omega)]; rfl
      obtain ⟨b, a0, a1, a2, a3, a4, a5, a6⟩ := x
      have hcl := fun K => c_cloneSels [⟨a0, a1, a2, a3, a4, a5, a6⟩] K (by simp only [tSelS, szR, List.length_cons, List.length_nil]; simp only at hsx; omega)
      simp only [tPlace, tSel, encL, encT, List.cons_append, List.nil_append, Md.ow_no, tSelS_len, tArgS_len, tDirS_len] at ea
      simp -implicitDefEqProofs [hlt, ea, w2, encPlaceS_len, hln]
      simp only [tSelS, encR, tSel, encL, encT, List.length_cons, List.length_nil, List.append_nil, Nat.zero_add, Md.ow_no, tSelS_len, tArgS_len, tDirS_len] at hcl
      refine ⟨by omega, callK_of (hcl _) ?_⟩
      simp -implicitDefEqProofs [hlt, ea, w2, encPlaceS_len, hln]
      have ee := put_same ea
      refine ⟨by omega, ?_⟩
      rw [ee]
      exact ⟨cntS xs - (i + 1), by omega, _, St.le_of (by simp) (by simp [St.trunc, look, mapV, mapC, killP]) rfl (by simp [St.trunc, mapC]), (hI _ _).2 ⟨i + 1, by omega, rfl, rfl⟩⟩
    · have e : i = cntS xs := by omega
      subst e
      simp -implicitDefEqProofs
      refine callK_of (c_ClipPlace _ _ _) ?_
      simp -implicitDefEqProofs [hln]
end Go.Proofs.YthagllbnkbahnaaGreat.Abs
