/- The places of selections, as a slice that may be written. No condition. -/
import Derived.Test.YthagllbnkbahnaaGreatPlaces
import Derived.Test.YthagllbnkbahnaaGreatCopies
set_option linter.unusedVariables false
set_option linter.unusedSimpArgs false
namespace Go.Proofs.YthagllbnkbahnaaGreat.Abs
open Go
set_option maxHeartbeats 1000000
set_option maxRecDepth 100000
theorem plc_leX (E : List DPlace) (owner : Bs) (a0 : Int) (a1 a2 a3 : Bs) (a4 : List DArg) (a5 : List DDir) (F : List DPlace) (n : Nat) :
    (AC.sl (.ex 65) n (encR .no (tPlaceS E) ++ .str owner :: .int .i64 a0 :: .str a1 :: .str a2 :: .str a3 :: .sl .no a4.length (encR .no (tArgS a4)) :: .sl .no a5.length (encR .no (tDirS a5)) :: .sl .nil 0 [] :: encR .no (tPlaceS F))).le
      (.sl (.ex 65) n (encR .no (tPlaceS (E ++ ⟨owner, ⟨a0, a1, a2, a3, a4, a5, []⟩⟩ :: F)))) := by
  refine AC.le_sl ?_
  rw [tPlaceS_app, encR_app]
  refine AC.leL_app AC.leL_refl ?_
  simp only [tPlaceS, tPlace, tSel, encR, encL_app, encL, encT, List.cons_append, List.nil_append, Md.ow_no, tArgS_len, tDirS_len, tSelS_len]
  exact AC.leL_app (a := [.str owner, .int .i64 a0, .str a1, .str a2, .str a3, .sl .no a4.length (encR .no (tArgS a4)), .sl .no a5.length (encR .no (tDirS a5)), .sl .nil 0 []])
    (c := [.str owner, .int .i64 a0, .str a1, .str a2, .str a3, .sl .no a4.length (encR .no (tArgS a4)), .sl .no a5.length (encR .no (tDirS a5)), .sl .no 0 []]) (by simp) AC.leL_refl
theorem c_placesOfX_rec (s : DSchema) : ∀ N : Nat, ∀ (owner : Bs) (xs : List DSel) (K : List (List (List AC))) (hb : cntS xs ≤ 10000000) (hN : SizeOf.sizeOf xs < N),
    Ct Tryz.prog 47 [.agg (encL .no (tSchema s)), .str owner, .sl .no xs.length (encR .no (tSelS xs))] K (.sl (.ex 65) (cntS xs) (encR .no (tPlaceS (plcS s.types owner xs)))) K := by
  intro N
  induction N with
  | zero => intros; omega
  | succ N ih =>
  intro owner xs K hb hN
  have hl := encL_len (m := .no) (r := tSchema s)
  rw [tSchema_len] at hl
  have hk : (encL .no (tSchema s)).take 3 = encL .no (tSchema s) := List.take_of_length_le (by omega)
  refine ct_fn { n0 := 11, ex := [12, 13, 14], tk := [11, 20, 23, 24, 25, 26, 34, 35, 37], kp := [11], es := true } Tryz.func47 rfl (by kernel_rfl) (by kernel_rfl) rfl ?_
  simp -implicitDefEqProofs [Tryz.f47, hl, hk]
  intro y0 hm
  obtain ⟨I, hI⟩ : ∃ I : Nat → St → Prop, ∀ m s0, I m s0 ↔ ∃ (i : Nat) (y : Value), i ≤ xs.length ∧ m = xs.length - i ∧
    s0 = { env := [(0, .agg (encL .no (tSchema s))), (1, .str owner), (2, .sl .no xs.length (encR .no (tSelS xs))), (3, .ptr 0 0 0), (6, .sl .nil 0 []), (7, .nam y (.sl (.ex 65) (cntS (xs.take i)) (encR .no (tPlaceS (plcS s.types owner (xs.take i)))))), (12, .sl .no xs.length (encR .no (tSelS xs))), (13, .int .i64 xs.length), (14, .int .i64 i)], loc := [], K := [encL .no (tSchema s)] :: K } := ⟨_, fun _ _ => Iff.rfl⟩
  refine wC_loopI I xs.length ((hI _ _).2 ⟨0, y0, by omega, rfl, rfl⟩) (St.le_of (by simp) (by simp [cntS, plcS, tPlaceS, encR]) rfl rfl) ?_
  intro m s0 hs0
  obtain ⟨i, y, hi, rfl, rfl⟩ := (hI _ _).1 hs0
  rcases Nat.lt_or_ge i xs.length with hlt | hge
  · obtain ⟨x, hx⟩ : ∃ x, xs[i]? = some x := ⟨_, List.getElem?_eq_getElem hlt⟩
    have ea := atSel (m := .no) hx
    have hct := cntS_take hx
    have hcl := cntS_take_le (xs := xs) (i + 1)
    have hpl := plcS_take (ts := s.types) (owner := owner) hx
    have hbe := fun K => c_below s owner x K
    have hc := fun K => ih (belowN s.types owner x.kind x.name x.on_) x.sels K (by omega) (by have := List.sizeOf_lt_of_mem (List.mem_of_getElem? hx); obtain ⟨a0, a1, a2, a3, a4, a5, a6⟩ := x; simp at this hN ⊢; omega)
    have hlc : (encR .no (tPlaceS (plcS s.types owner (xs.take i)))).length = cntS (xs.take i) * 8 := by rw [encPlaceS_len, plcS_length]
    have w2 : IntKind.i64.wrap ((i : Int) + 1) = (i + 1 : Nat) := by
      have hli : ∀ ys : List DSel, ys.length ≤ cntS ys := by
        intro ys; induction ys with
        | nil => simp
        | cons y ys ih => simp only [cntS, cntX_eq, List.length_cons]; omega
      have := hli xs
      rw [wrap64 (by omega) (by omega)]; rfl
    generalize plcS s.types owner (xs.take i) = E at *
    generalize hF : plcS s.types owner (xs.take (i + 1)) = F at *
    obtain ⟨a0, a1, a2, a3, a4, a5, a6⟩ := x
    dsimp only at *
    simp only [tSel, encL, encT, List.cons_append, List.nil_append, Md.ow_no, tSelS_len, tArgS_len, tDirS_len] at ea hbe
    simp -implicitDefEqProofs [hlt, ea, hl, hk, w2, encSelS_len]
    refine ⟨by unfold maxLen; omega, by omega, fun y1 => ?_⟩
    refine wRun_draw true rfl (by decide +kernel) ?_
    simp -implicitDefEqProofs [hlt, ea, hl, hk, w2, encSelS_len]
    refine callK_of (hbe _) ?_
    simp -implicitDefEqProofs [hl, hk]
    refine callK_of (hc _) ?_
    simp -implicitDefEqProofs [w2]
    have hl6 : (encR .no (tPlaceS (plcS s.types (belowN s.types owner a0 a2 a3) a6))).length = cntS a6 * 8 := by rw [encPlaceS_len, plcS_length]
    refine ⟨by unfold maxLen; omega, by omega, hl6, fun y2 => ?_⟩
    have hle := plc_leX E owner a0 a1 a2 a3 a4 a5 (plcS s.types (belowN s.types owner a0 a2 a3) a6) (cntS (xs.take i) + 1 + cntS a6)
    rw [show E ++ ⟨owner, ⟨a0, a1, a2, a3, a4, a5, []⟩⟩ :: plcS s.types (belowN s.types owner a0 a2 a3) a6 = F by rw [hpl]; rfl, ← hF] at hle
    have hnn : cntS (xs.take (i + 1)) = cntS (xs.take i) + 1 + cntS a6 := by omega
    exact ⟨xs.length - (i + 1), by omega, _, St.le_of (by simp) (by simp [St.trunc, look, mapV, mapC, killP, hnn, AC.le.nam (y := y2) hle]) rfl (by simp [St.trunc, mapC]), (hI _ _).2 ⟨i + 1, y2, by omega, rfl, rfl⟩⟩
  · have e : i = xs.length := by omega
    subst e
    rw [List.take_of_length_le (Nat.le_refl _)] at *
    simp -implicitDefEqProofs
theorem c_placesOfX (s : DSchema) (owner : Bs) (xs : List DSel) (K) (hb : cntS xs ≤ 10000000) : Ct Tryz.prog 47 [.agg (encL .no (tSchema s)), .str owner, .sl .no xs.length (encR .no (tSelS xs))] K (.sl (.ex 65) (cntS xs) (encR .no (tPlaceS (plcS s.types owner xs)))) K :=
  c_placesOfX_rec s _ owner xs K hb (Nat.lt_succ_self _)
end Go.Proofs.YthagllbnkbahnaaGreat.Abs
