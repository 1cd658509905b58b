/- The places of selections: below, placesOf, l25Places. No condition. -/
import Derived.Test.YthagllbnkbahnaaGreatFields
import Derived.Test.YthagllbnkbahnaaGreatSels
set_option linter.unusedVariables false
set_option linter.unusedSimpArgs false
namespace Go.Proofs.YthagllbnkbahnaaGreat.Abs
open Go
set_option maxHeartbeats 1000000
set_option maxRecDepth 100000
def belowN (ts : List DDef) (owner : Bs) (k : Int) (name on_ : Bs) : Bs := if k = 1 then (fldDef ts owner name).ty.name else if on_ = [] then owner else on_
theorem fldDef_no {ts : List DDef} {n f : Bs} (h : fldOk ts n f = false) : fldDef ts n f = zField := by
  unfold fldOk at h
  unfold fldDef
  split at h
  · cases h
  · next h1 =>
    rw [if_neg h1]
    split at h
    · next h2 => rw [if_pos h2]; unfold fldIn; rw [if_pos (by simpa using h)]
    · next h2 => rw [if_neg h2]
mutual
def plcX (ts : List DDef) (owner : Bs) : DSel → List DPlace
  | ⟨k, a, n, o, args, dirs, sels⟩ => ⟨owner, ⟨k, a, n, o, args, dirs, []⟩⟩ :: plcS ts (belowN ts owner k n o) sels
def plcS (ts : List DDef) (owner : Bs) : List DSel → List DPlace
  | [] => []
  | x :: xs => plcX ts owner x ++ plcS ts owner xs
end
theorem plcS_app {ts : List DDef} {owner : Bs} : ∀ {a b : List DSel}, plcS ts owner (a ++ b) = plcS ts owner a ++ plcS ts owner b := by
  intro a; induction a with
  | nil => intro b; simp [plcS]
  | cons x a ih => intro b; simp [plcS, ih]
theorem plcS_take {ts : List DDef} {owner : Bs} {xs : List DSel} {i : Nat} {x : DSel} (h : xs[i]? = some x) : plcS ts owner (xs.take (i + 1)) = plcS ts owner (xs.take i) ++ plcX ts owner x := by
  rw [List.take_add_one, h, plcS_app]; simp [plcS]
theorem plcS_len (ts : List DDef) : ∀ N : Nat, ∀ (xs : List DSel) (owner : Bs), SizeOf.sizeOf xs < N → (plcS ts owner xs).length = cntS xs := by
  intro N
  induction N with
  | zero => intros; omega
  | succ N ih =>
    intro xs owner hN
    cases xs with
    | nil => simp [plcS, cntS]
    | cons x xs =>
      obtain ⟨k, a, n, o, args, dirs, sels⟩ := x
      have h1 := ih sels (belowN ts owner k n o) (by simp at hN; omega)
      have h2 := ih xs owner (by simp at hN; omega)
      simp [plcS, plcX, cntS, cntX, h1, h2]; omega
theorem plcS_length (ts : List DDef) (xs : List DSel) (owner : Bs) : (plcS ts owner xs).length = cntS xs := plcS_len ts _ xs owner (Nat.lt_succ_self _)
theorem c_below (s : DSchema) (owner : Bs) (x : DSel) (K) : Ct Tryz.prog 85 [.agg (encL .no (tSchema s)), .str owner, .agg (encL .no (tSel x))] K (.str (belowN s.types owner x.kind x.name x.on_)) K := by
  have hl := encL_len (m := .no) (r := tSchema s)
  rw [tSchema_len] at hl
  have hk : (encL .no (tSchema s)).take 3 = encL .no (tSchema s) := List.take_of_length_le (by omega)
  obtain ⟨k, a, n, o, args, dirs, sels⟩ := x
  dsimp only
  have hf := fun K => c_fieldDef s owner n K
  have hd : encL .no (tFieldDef (fldDef s.types owner n)) = [.str (fldDef s.types owner n).name, .str (fldDef s.types owner n).desc, .sl .no (fldDef s.types owner n).args.length (encR .no (tInDefS (fldDef s.types owner n).args)), .str (fldDef s.types owner n).ty.name, .str (fldDef s.types owner n).ty.wraps, .sl .no (fldDef s.types owner n).dirs.length (encR .no (tDirS (fldDef s.types owner n).dirs))] := by
    generalize fldDef s.types owner n = f
    obtain ⟨f0, f1, f2, ⟨f3, f4⟩, f5⟩ := f
    simp [tFieldDef, tType, encL_app, encL, encT]
  unfold belowN
  refine ct_fn { n0 := 9, ex := [], tk := [17, 22, 27, 28] } Tryz.func85 rfl (by kernel_rfl) (by kernel_rfl) rfl ?_
  simp -implicitDefEqProofs [Tryz.f85, hl, hk, tSel, encL, encT]
  refine ⟨fun h => ?_, fun h => ⟨fun h2 => ?_, fun h2 => ?_⟩⟩
  · refine callK_of (hf _) ?_
    simp -implicitDefEqProofs [hd, h]
  · simp [h, h2]
  · simp [h, h2]
theorem plc_le (E : List DPlace) (owner : Bs) (a0 : Int) (a1 a2 a3 : Bs) (a4 : List DArg) (a5 : List DDir) (F : List DPlace) (n : Nat) :
    (AC.sl (.of 65) n (encR .no (tPlaceS E) ++ .str owner :: .int .i64 a0 :: .str a1 :: .str a2 :: .str a3 :: .sl .no a4.length (encR .no (tArgS a4)) :: .sl .no a5.length (encR .no (tDirS a5)) :: .sl .nil 0 [] :: encR .no (tPlaceS F))).le
      (.sl (.of 65) n (encR .no (tPlaceS (E ++ ⟨owner, ⟨a0, a1, a2, a3, a4, a5, []⟩⟩ :: F)))) := by
  refine AC.le_sl ?_
  rw [tPlaceS_app, encR_app]
  refine AC.leL_app AC.leL_refl ?_
  simp only [tPlaceS, tPlace, tSel, encR, encL_app, encL, encT, List.cons_append, List.nil_append, Md.ow_no, tArgS_len, tDirS_len, tSelS_len]
  exact AC.leL_app (a := [.str owner, .int .i64 a0, .str a1, .str a2, .str a3, .sl .no a4.length (encR .no (tArgS a4)), .sl .no a5.length (encR .no (tDirS a5)), .sl .nil 0 []])
    (c := [.str owner, .int .i64 a0, .str a1, .str a2, .str a3, .sl .no a4.length (encR .no (tArgS a4)), .sl .no a5.length (encR .no (tDirS a5)), .sl .no 0 []]) (by simp) AC.leL_refl
theorem c_placesOf_rec (s : DSchema) : ∀ N : Nat, ∀ (owner : Bs) (xs : List DSel) (K : List (List (List AC))) (hb : cntS xs ≤ 10000000) (hN : SizeOf.sizeOf xs < N),
    Ct Tryz.prog 47 [.agg (encL .no (tSchema s)), .str owner, .sl .no xs.length (encR .no (tSelS xs))] K (.sl (.of 65) (cntS xs) (encR .no (tPlaceS (plcS s.types owner xs)))) K := by
  intro N
  induction N with
  | zero => intros; omega
  | succ N ih =>
  intro owner xs K hb hN
  have hl := encL_len (m := .no) (r := tSchema s)
  rw [tSchema_len] at hl
  have hk : (encL .no (tSchema s)).take 3 = encL .no (tSchema s) := List.take_of_length_le (by omega)
  refine ct_fn { n0 := 11, ex := [12, 13, 14], tk := [11, 20, 23, 24, 25, 26, 34, 35, 37] } Tryz.func47 rfl (by kernel_rfl) (by kernel_rfl) rfl ?_
  simp -implicitDefEqProofs [Tryz.f47, hl, hk]
  intro hm
  obtain ⟨I, hI⟩ : ∃ I : Nat → St → Prop, ∀ m s0, I m s0 ↔ ∃ i, i ≤ xs.length ∧ m = xs.length - i ∧
    s0 = { env := [(0, .agg (encL .no (tSchema s))), (1, .str owner), (2, .sl .no xs.length (encR .no (tSelS xs))), (3, .ptr 0 0 0), (6, .sl .nil 0 []), (7, .sl (.of 65) (cntS (xs.take i)) (encR .no (tPlaceS (plcS s.types owner (xs.take i))))), (12, .sl .no xs.length (encR .no (tSelS xs))), (13, .int .i64 xs.length), (14, .int .i64 i)], loc := [], K := [encL .no (tSchema s)] :: K } := ⟨_, fun _ _ => Iff.rfl⟩
  refine wC_loopI I xs.length ((hI _ _).2 ⟨0, by omega, rfl, rfl⟩) (St.le_of (by simp) (by simp [cntS, plcS, tPlaceS, encR]) rfl rfl) ?_
  intro m s0 hs0
  obtain ⟨i, hi, rfl, rfl⟩ := (hI _ _).1 hs0
  rcases Nat.lt_or_ge i xs.length with hlt | hge
  · obtain ⟨x, hx⟩ : ∃ x, xs[i]? = some x := ⟨_, List.getElem?_eq_getElem hlt⟩
    have ea := atSel (m := .no) hx
    have hct := cntS_take hx
    have hcl := cntS_take_le (xs := xs) (i + 1)
    have hpl := plcS_take (ts := s.types) (owner := owner) hx
    have hbe := fun K => c_below s owner x K
    have hc := fun K => ih (belowN s.types owner x.kind x.name x.on_) x.sels K (by omega) (by have := List.sizeOf_lt_of_mem (List.mem_of_getElem? hx); obtain ⟨a0, a1, a2, a3, a4, a5, a6⟩ := x; simp at this hN ⊢; omega)
    have hlc : (encR .no (tPlaceS (plcS s.types owner (xs.take i)))).length = cntS (xs.take i) * 8 := by rw [encPlaceS_len, plcS_length]
    have w2 : IntKind.i64.wrap ((i : Int) + 1) = (i + 1 : Nat) := by
      have hli : ∀ ys : List DSel, ys.length ≤ cntS ys := by
        intro ys; induction ys with
        | nil => simp
        | cons y ys ih => simp only [cntS, cntX_eq, List.length_cons]; omega
      have := hli xs
      rw [wrap64 (by omega) (by omega)]; rfl
    generalize plcS s.types owner (xs.take i) = E at *
    generalize hF : plcS s.types owner (xs.take (i + 1)) = F at *
    obtain ⟨a0, a1, a2, a3, a4, a5, a6⟩ := x
    dsimp only at *
    simp only [tSel, encL, encT, List.cons_append, List.nil_append, Md.ow_no, tSelS_len, tArgS_len, tDirS_len] at ea hbe
    simp -implicitDefEqProofs [hlt, ea, hl, hk, w2, encSelS_len]
    refine ⟨by unfold maxLen; omega, by omega, ?_⟩
    refine wRun_draw true rfl (by decide +kernel) ?_
    simp -implicitDefEqProofs [hlt, ea, hl, hk, w2, encSelS_len]
    refine callK_of (hbe _) ?_
    simp -implicitDefEqProofs [hl, hk]
    refine callK_of (hc _) ?_
    simp -implicitDefEqProofs [w2]
    have hl6 : (encR .no (tPlaceS (plcS s.types (belowN s.types owner a0 a2 a3) a6))).length = cntS a6 * 8 := by rw [encPlaceS_len, plcS_length]
    refine ⟨by unfold maxLen; omega, by omega, hl6, ?_⟩
    have hle := plc_le E owner a0 a1 a2 a3 a4 a5 (plcS s.types (belowN s.types owner a0 a2 a3) a6) (cntS (xs.take i) + 1 + cntS a6)
    rw [show E ++ ⟨owner, ⟨a0, a1, a2, a3, a4, a5, []⟩⟩ :: plcS s.types (belowN s.types owner a0 a2 a3) a6 = F by rw [hpl]; rfl, ← hF] at hle
    have hnn : cntS (xs.take (i + 1)) = cntS (xs.take i) + 1 + cntS a6 := by omega
    exact ⟨xs.length - (i + 1), by omega, _, St.le_of (by simp) (by simp [St.trunc, look, mapV, mapC, killP, hnn, hle]) rfl (by simp [St.trunc, mapC]), (hI _ _).2 ⟨i + 1, by omega, rfl, rfl⟩⟩
  · have e : i = xs.length := by omega
    subst e
    rw [List.take_of_length_le (Nat.le_refl _)] at *
    simp -implicitDefEqProofs
theorem c_placesOf (s : DSchema) (owner : Bs) (xs : List DSel) (K) (hb : cntS xs ≤ 10000000) : Ct Tryz.prog 47 [.agg (encL .no (tSchema s)), .str owner, .sl .no xs.length (encR .no (tSelS xs))] K (.sl (.of 65) (cntS xs) (encR .no (tPlaceS (plcS s.types owner xs)))) K :=
  c_placesOf_rec s _ owner xs K hb (Nat.lt_succ_self _)
theorem c_l25Places_rec (s : DSchema) : ∀ N : Nat, ∀ (owner : Bs) (xs : List DSel) (out : List DPlace) (K : List (List (List AC))) (hb : out.length + cntS xs ≤ 10000000) (hN : SizeOf.sizeOf xs < N),
    Ct Tryz.prog 43 [.agg (encL .no (tSchema s)), .str owner, .sl .no xs.length (encR .no (tSelS xs)), .sl (.of 65) out.length (encR .no (tPlaceS out))] K (.sl (.of 65) (out ++ plcS s.types owner xs).length (encR .no (tPlaceS (out ++ plcS s.types owner xs)))) K := by
  intro N
  induction N with
  | zero => intros; omega
  | succ N ih =>
  intro owner xs out K hb hN
  have hl := encL_len (m := .no) (r := tSchema s)
  rw [tSchema_len] at hl
  have hk : (encL .no (tSchema s)).take 3 = encL .no (tSchema s) := List.take_of_length_le (by omega)
  have hli : ∀ ys : List DSel, ys.length ≤ cntS ys := by
    intro ys; induction ys with
    | nil => simp
    | cons y ys ih => simp only [cntS, cntX_eq, List.length_cons]; omega
  have hlx := hli xs
  generalize hR : out ++ plcS s.types owner xs = R
  refine ct_fn { n0 := 15, ex := [], tk := [3, 35, 50, 52, 55, 56, 57, 61, 62, 63] } Tryz.func43 rfl (by kernel_rfl) (by kernel_rfl) rfl ?_
  simp -implicitDefEqProofs [Tryz.f43, hl, hk]
  obtain ⟨I, hI⟩ : ∃ I : Nat → St → Prop, ∀ m s0, I m s0 ↔ ∃ i, i ≤ xs.length ∧ m = xs.length - i ∧
    s0 = { env := [(0, .agg (encL .no (tSchema s))), (1, .str owner), (2, .sl .no xs.length (encR .no (tSelS xs))), (3, .sl (.of 65) (out ++ plcS s.types owner (xs.take i)).length (encR .no (tPlaceS (out ++ plcS s.types owner (xs.take i))))), (4, .ptr 0 0 0), (8, .sl .nil 0 []), (9, .int .i64 i)], loc := [], K := [encL .no (tSchema s)] :: K } := ⟨_, fun _ _ => Iff.rfl⟩
  refine wC_loopI I xs.length ((hI _ _).2 ⟨0, by omega, rfl, rfl⟩) (St.le_of (by simp) (by simp [plcS]) rfl rfl) ?_
  intro m s0 hs0
  obtain ⟨i, hi, rfl, rfl⟩ := (hI _ _).1 hs0
  rcases Nat.lt_or_ge i xs.length with hlt | hge
  · obtain ⟨x, hx⟩ : ∃ x, xs[i]? = some x := ⟨_, List.getElem?_eq_getElem hlt⟩
    have ea := atSel (m := .no) hx
    have hct := cntS_take hx
    have hcl := cntS_take_le (xs := xs) (i + 1)
    have hpl := plcS_take (ts := s.types) (owner := owner) hx
    have hel : (out ++ plcS s.types owner (xs.take i)).length = out.length + cntS (xs.take i) := by rw [List.length_append, plcS_length]
    have w2 : IntKind.i64.wrap ((i : Int) + 1) = (i + 1 : Nat) := by rw [wrap64 (by omega) (by omega)]; rfl
    have hFF : out ++ plcS s.types owner (xs.take (i + 1)) = (out ++ plcS s.types owner (xs.take i)) ++ plcX s.types owner x := by rw [hpl, List.append_assoc]
    generalize hF : out ++ plcS s.types owner (xs.take (i + 1)) = F at *
    generalize out ++ plcS s.types owner (xs.take i) = E at *
    obtain ⟨a0, a1, a2, a3, a4, a5, a6⟩ := x
    dsimp only at *
    have hf := fun K => c_l18Field s owner a2 K
    have hno := fldDef_no (ts := s.types) (n := owner) (f := a2)
    have hd : encL .no (tFieldDef (fldDef s.types owner a2)) = [.str (fldDef s.types owner a2).name, .str (fldDef s.types owner a2).desc, .sl .no (fldDef s.types owner a2).args.length (encR .no (tInDefS (fldDef s.types owner a2).args)), .str (fldDef s.types owner a2).ty.name, .str (fldDef s.types owner a2).ty.wraps, .sl .no (fldDef s.types owner a2).dirs.length (encR .no (tDirS (fldDef s.types owner a2).dirs))] := by
      generalize fldDef s.types owner a2 = f
      obtain ⟨f0, f1, f2, ⟨f3, f4⟩, f5⟩ := f
      simp [tFieldDef, tType, encL_app, encL, encT]
    have hlc : (encR .no (tPlaceS E)).length = E.length * 8 := by rw [encPlaceS_len]
    have hc := fun (b : Bs) (G : List DPlace) (hG : G.length = E.length + 1) K => ih b a6 G K (by omega) (by have := List.sizeOf_lt_of_mem (List.mem_of_getElem? hx); simp at this hN ⊢; omega)
    have hG : encR .no (tPlaceS (E ++ [⟨owner, ⟨a0, a1, a2, a3, a4, a5, []⟩⟩])) = encR .no (tPlaceS E) ++ [.str owner, .int .i64 a0, .str a1, .str a2, .str a3, .sl .no a4.length (encR .no (tArgS a4)), .sl .no a5.length (encR .no (tDirS a5)), .sl .no 0 []] := by
      rw [tPlaceS_app, encR_app]; simp [tPlaceS, tPlace, tSel, encR, encL_app, encL, encT, tSelS]
    have hFE : F = E ++ [⟨owner, ⟨a0, a1, a2, a3, a4, a5, []⟩⟩] ++ plcS s.types (belowN s.types owner a0 a2 a3) a6 := by rw [hFF]; simp [plcX]
    replace hc := fun K => hc (belowN s.types owner a0 a2 a3) (E ++ [⟨owner, ⟨a0, a1, a2, a3, a4, a5, []⟩⟩]) (by simp) K
    rw [hG, ← hFE, ← hF] at hc
    rw [show (E ++ [(⟨owner, ⟨a0, a1, a2, a3, a4, a5, []⟩⟩ : DPlace)]).length = E.length + 1 by simp] at hc
    unfold belowN at hc
    simp only [tSel, encL, encT, List.cons_append, List.nil_append, Md.ow_no, tSelS_len, tArgS_len, tDirS_len] at ea
    rcases Classical.em (a0 = 1) with rfl | hn1
    · simp -implicitDefEqProofs [hlt, ea, hl, hk, w2, encSelS_len]
      rw [if_pos rfl] at hc
      refine fun _ => callK_of (hf _) ?_
      simp -implicitDefEqProofs [hd, encL, encT]
      cases hok : fldOk s.types owner a2 with
      | true =>
        simp -implicitDefEqProofs [hlt, ea, hl, hk, w2, encSelS_len]
        refine ⟨by unfold maxLen; omega, by omega, callK_of (hc _) ?_⟩
        simp -implicitDefEqProofs [w2]
        exact ⟨xs.length - (i + 1), by omega, _, St.le_of (by simp) (by simp [St.trunc, look, mapV, mapC, killP]) rfl (by simp [St.trunc, mapC]), (hI _ _).2 ⟨i + 1, by omega, rfl, rfl⟩⟩
      | false =>
        rw [hno hok] at hc ⊢
        simp -implicitDefEqProofs [hlt, ea, hl, hk, w2, encSelS_len]
        refine ⟨by unfold maxLen; omega, by omega, callK_of (hc _) ?_⟩
        simp -implicitDefEqProofs [w2]
        exact ⟨xs.length - (i + 1), by omega, _, St.le_of (by simp) (by simp [St.trunc, look, mapV, mapC, killP]) rfl (by simp [St.trunc, mapC]), (hI _ _).2 ⟨i + 1, by omega, rfl, rfl⟩⟩
    · rcases Classical.em (a3 = []) with rfl | hn3
      · simp -implicitDefEqProofs [hlt, ea, hl, hk, w2, encSelS_len, hn1]
        rw [if_neg hn1, if_pos rfl] at hc
        refine fun _ => ⟨by unfold maxLen; omega, by omega, callK_of (hc _) ?_⟩
        simp -implicitDefEqProofs [w2]
        exact ⟨xs.length - (i + 1), by omega, _, St.le_of (by simp) (by simp [St.trunc, look, mapV, mapC, killP]) rfl (by simp [St.trunc, mapC]), (hI _ _).2 ⟨i + 1, by omega, rfl, rfl⟩⟩
      · simp -implicitDefEqProofs [hlt, ea, hl, hk, w2, encSelS_len, hn1, hn3]
        rw [if_neg hn1, if_neg hn3] at hc
        refine fun _ => ⟨by unfold maxLen; omega, by omega, callK_of (hc _) ?_⟩
        simp -implicitDefEqProofs [w2]
        exact ⟨xs.length - (i + 1), by omega, _, St.le_of (by simp) (by simp [St.trunc, look, mapV, mapC, killP]) rfl (by simp [St.trunc, mapC]), (hI _ _).2 ⟨i + 1, by omega, rfl, rfl⟩⟩
  · have e : i = xs.length := by omega
    subst e
    rw [List.take_of_length_le (Nat.le_refl _), hR]
    generalize roundK I (xs.length - xs.length) = RK
    simp -implicitDefEqProofs (maxSteps := 1000000)
theorem c_l25Places (s : DSchema) (owner : Bs) (xs : List DSel) (out : List DPlace) (K) (hb : out.length + cntS xs ≤ 10000000) :
    Ct Tryz.prog 43 [.agg (encL .no (tSchema s)), .str owner, .sl .no xs.length (encR .no (tSelS xs)), .sl (.of 65) out.length (encR .no (tPlaceS out))] K (.sl (.of 65) (out ++ plcS s.types owner xs).length (encR .no (tPlaceS (out ++ plcS s.types owner xs)))) K :=
  c_l25Places_rec s _ owner xs out K hb (Nat.lt_succ_self _)
end Go.Proofs.YthagllbnkbahnaaGreat.Abs
