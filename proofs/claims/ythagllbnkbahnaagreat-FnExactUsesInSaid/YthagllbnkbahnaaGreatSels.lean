/- Selections: counts, all of them, names that are spread. No condition. -/
import Derived.Test.YthagllbnkbahnaaGreatStrs
set_option linter.unusedVariables false
set_option linter.unusedSimpArgs false
namespace Go.Proofs.YthagllbnkbahnaaGreat.Abs
open Go
set_option maxHeartbeats 1000000
set_option maxRecDepth 100000
theorem szSel (x : DSel) : szL (tSel x) = x.alias.length + x.name.length + x.on_.length + (x.args.length + szR (tArgS x.args)) + (x.dirs.length + szR (tDirS x.dirs)) + (x.sels.length + szR (tSelS x.sels)) := by
  obtain ⟨a0, a1, a2, a3, a4, a5, a6⟩ := x; simp [tSel, szL, szT]; omega
theorem spS_neg {xs : List DSel} {c : Int} (h : c < 0) : spS xs c = c := by
  cases xs with
  | nil => rfl
  | cons x xs => simp only [spS]; rw [if_neg (by omega)]
theorem spS_drop {xs : List DSel} {i : Nat} {x : DSel} {c : Int} (h : xs[i]? = some x) (hc : 0 ≤ c) : spS (xs.drop i) c = spS (xs.drop (i + 1)) (spX x c) := by
  obtain ⟨hlt, rfl⟩ := List.getElem?_eq_some_iff.1 h
  rw [List.drop_eq_getElem_cons hlt]; simp only [spS]; rw [if_pos hc]
theorem get_mid {α : Type} {pre : List α} {F : α} {K : List α} : (pre ++ F :: K)[pre.length]? = some F := by simp
theorem set_mid {α : Type} {pre : List α} {F F' : α} {K : List α} : (pre ++ F :: K).set pre.length F' = pre ++ F' :: K := by simp [List.set_append]
theorem c_count : ∀ N : Nat, ∀ (xs : List DSel) (l : Int) (pre K0 : List (List (List AC))) (hs : xs.length + szR (tSelS xs) ≤ 1048576) (hl : -1000000000000 ≤ l - cntS xs) (hl2 : l ≤ 120) (hN : SizeOf.sizeOf xs < N),
    Ct Tryz.prog 84 [.sl .no xs.length (encR .no (tSelS xs)), .ptr pre.length 0 0, .ptr pre.length 1 0] (pre ++ [[.int .i64 l], [.fn 84 [.ptr 0 0 0, .ptr 0 1 0]]] :: K0) (.tup []) (pre ++ [[.int .i64 (clS xs l)], [.fn 84 [.ptr 0 0 0, .ptr 0 1 0]]] :: K0) := by
  intro N
  induction N with
  | zero => intros; omega
  | succ N ih =>
  intro xs l pre K0 hs hl hl2 hN
  refine ct_fn { n0 := 6, ex := [6, 7, 8], tk := [19] } Tryz.func84 rfl (by kernel_rfl) (by kernel_rfl) rfl ?_
  simp -implicitDefEqProofs [Tryz.f84]
  intro h1
  obtain ⟨I, hI⟩ : ∃ I : Nat → St → Prop, ∀ m s, I m s ↔ ∃ i, i ≤ xs.length ∧ m = xs.length - i ∧
    s = { env := [(0, .sl .no xs.length (encR .no (tSelS xs))), (1, .ptr (pre.length + 1) 0 0), (2, .ptr (pre.length + 1) 1 0), (6, .sl .no xs.length (encR .no (tSelS xs))), (7, .int .i64 xs.length), (8, .int .i64 i)], loc := [],
          K := [] :: (pre ++ [[.int .i64 (clS (xs.take i) l)], [.fn 84 [.ptr 0 0 0, .ptr 0 1 0]]] :: K0) } := ⟨_, fun _ _ => Iff.rfl⟩
  refine wC_loopI I xs.length ((hI _ _).2 ⟨0, by omega, rfl, rfl⟩) (St.le_of (by simp) (by simp) rfl (by simp [clS])) ?_
  intro m s hm
  obtain ⟨i, hi, rfl, rfl⟩ := (hI _ _).1 hm
  rcases Nat.lt_or_ge i xs.length with hlt | hge
  · obtain ⟨x, hx⟩ : ∃ x, xs[i]? = some x := ⟨_, List.getElem?_eq_getElem hlt⟩
    have ea := atSel (m := .no) hx
    have es := szR_get (tSelS_get hx)
    have el := szR_take_le (rs := tSelS xs) (i + 1)
    have hz := szSel x
    have hct := cntS_take hx
    have hcl := cntS_take_le (xs := xs) (i + 1)
    have hok := clS_ok (xs.take i) l
    have hnx := clS_take (l := l) hx
    rw [clX_eq] at hnx
    have hsz : SizeOf.sizeOf x.sels < N := by have := List.sizeOf_lt_of_mem (List.mem_of_getElem? hx); obtain ⟨a0, a1, a2, a3, a4, a5, a6⟩ := x; simp at this ⊢; omega
    obtain ⟨a0, a1, a2, a3, a4, a5, a6⟩ := x
    dsimp only at hnx hct hz hsz
    simp only [tSel, encL_app, encL, encT, List.cons_append, List.nil_append, Md.ow_no, tSelS_len, tArgS_len, tDirS_len] at ea
    generalize clS (xs.take i) l = c at *
    have wl : IntKind.i64.wrap (c - 1) = c - 1 := wrap64 (by omega) (by omega)
    have wi : IntKind.i64.wrap ((i : Int) + 1) = (i + 1 : Nat) := by unfold maxLen at *; rw [wrap64 (by omega) (by omega)]; rfl
    simp -implicitDefEqProofs [hlt, ea, encSelS_len, get_mid, set_mid, wl, wi]
    refine ⟨fun h0 => ?_, fun h0 => ?_⟩
    · rw [if_pos (by omega)] at hnx
      have hc := ih a6 (c - 1) ([[.int .i64 a0, .str a1, .str a2, .str a3, .sl .no a4.length (encR .no (tArgS a4)), .sl .no a5.length (encR .no (tDirS a5)), .sl .no a6.length (encR .no (tSelS a6))]] :: pre) K0 (by omega) (by omega) (by omega) hsz
      simp only [List.length_cons, List.cons_append] at hc
      refine callK_of hc ?_
      simp -implicitDefEqProofs [wi]
      exact ⟨xs.length - (i + 1), by omega, _, St.le_of (by simp) (by simp [St.trunc, look, mapV, mapC, killP]) rfl (by simp [St.trunc, mapC, hnx]), (hI _ _).2 ⟨i + 1, by omega, rfl, rfl⟩⟩
    · rw [if_neg (by omega)] at hnx
      exact ⟨xs.length - (i + 1), by omega, _, St.le_of (by simp) (by simp [St.trunc, look, mapV, mapC, killP]) rfl (by simp [St.trunc, mapC, hnx]), (hI _ _).2 ⟨i + 1, by omega, rfl, rfl⟩⟩
  · have e : i = xs.length := by omega
    subst e
    rw [List.take_of_length_le (Nat.le_refl _)]
    simp -implicitDefEqProofs
theorem c_tooMuch (xs : List DSel) (K) (hs : xs.length + szR (tSelS xs) ≤ 1048576) : Ct Tryz.prog 46 [.sl .no xs.length (encR .no (tSelS xs))] K (.bool (tooMany xs)) K := by
  have hle := cntS_le xs
  have hc := c_count _ xs 120 [] K hs (by omega) (by omega) (Nat.lt_succ_self _)
  simp only [List.length_nil, List.nil_append] at hc
  refine ct_fn { n0 := 5, ex := [], tk := [8] } Tryz.func46 rfl (by kernel_rfl) (by kernel_rfl) rfl ?_
  simp -implicitDefEqProofs [Tryz.f46]
  refine callK_of hc ?_
  simp -implicitDefEqProofs
  rw [tooMany_cl]
theorem c_l11Count : ∀ N : Nat, ∀ (x : DSel) (l : Int) (K : List (List (List AC))) (hs : szL (tSel x) ≤ 1048576) (hl : -1000000000000 ≤ l - cntX x) (hl2 : l ≤ 120) (hN : SizeOf.sizeOf x < N),
    Ct Tryz.prog 82 [.agg (encL .no (tSel x)), .int .i64 l] K (.int .i64 (spX x l)) K := by
  intro N
  induction N with
  | zero => intros; omega
  | succ N ih =>
  intro x l K hs hl hl2 hN
  have hz := szSel x
  rw [cntX_eq] at hl
  rw [spX_eq]
  obtain ⟨a0, a1, a2, a3, a4, a5, a6⟩ := x
  dsimp only at hz hl ⊢
  have hok := spS_ok a6 (l - 1)
  have wl : IntKind.i64.wrap (l - 1) = l - 1 := wrap64 (by omega) (by omega)
  refine ct_fn { n0 := 6, ex := [], tk := [25, 26] } Tryz.func82 rfl (by kernel_rfl) (by kernel_rfl) rfl ?_
  simp -implicitDefEqProofs [Tryz.f82, tSel, encL_app, encL, encT, wl]
  obtain ⟨I, hI⟩ : ∃ I : Nat → St → Prop, ∀ m s, I m s ↔ ∃ (i : Nat) (c : Int), i ≤ a6.length ∧ m = a6.length - i ∧ spS (a6.drop i) c = spS a6 (l - 1) ∧ l - 1 - cntS (a6.take i) ≤ c ∧ c ≤ 120 ∧
    s = { env := [(0, .agg [.int .i64 a0, .str a1, .str a2, .str a3, .sl .no a4.length (encR .no (tArgS a4)), .sl .no a5.length (encR .no (tDirS a5)), .sl .no a6.length (encR .no (tSelS a6))]), (1, .int .i64 c), (2, .ptr 0 0 0), (4, .int .i64 0), (5, .int .i64 i)], loc := [],
          K := [[.int .i64 a0, .str a1, .str a2, .str a3, .sl .no a4.length (encR .no (tArgS a4)), .sl .no a5.length (encR .no (tDirS a5)), .sl .no a6.length (encR .no (tSelS a6))]] :: K } := ⟨_, fun _ _ => Iff.rfl⟩
  refine wC_loopI I a6.length ((hI _ _).2 ⟨0, l - 1, by omega, rfl, rfl, by simp [cntS], by omega, rfl⟩) (St.le_of (by simp) (by simp) rfl rfl) ?_
  intro m s hm
  obtain ⟨i, c, hi, rfl, hr, hb1, hb2, rfl⟩ := (hI _ _).1 hm
  have hcl := cntS_take_le (xs := a6) i
  rcases Nat.lt_or_ge i a6.length with hlt | hge
  · obtain ⟨x, hx⟩ : ∃ x, a6[i]? = some x := ⟨_, List.getElem?_eq_getElem hlt⟩
    have ea := atSel (m := .no) hx
    have es := szR_get (tSelS_get hx)
    have el := szR_take_le (rs := tSelS a6) (i + 1)
    have hct := cntS_take hx
    have hcl2 := cntS_take_le (xs := a6) (i + 1)
    have hcx := cntX_eq x
    have hsz : SizeOf.sizeOf x < N := by have := List.sizeOf_lt_of_mem (List.mem_of_getElem? hx); simp at hN; omega
    have hek := encL_len (m := .no) (r := tSel x)
    rw [tSel_len] at hek
    have htk : (encL .no (tSel x)).take 7 = encL .no (tSel x) := List.take_of_length_le (by omega)
    have wi : IntKind.i64.wrap ((i : Int) + 1) = (i + 1 : Nat) := by rw [wrap64 (by omega) (by omega)]; rfl
    simp -implicitDefEqProofs [hlt, ea, hek, htk, encSelS_len, wi]
    intro hm1
    refine ⟨fun h0 => ?_, fun h0 => ?_⟩
    · have hs2 := spS_drop hx h0
      have hok2 := spX_ok x c
      refine callK_of (ih x c _ (by omega) (by omega) (by omega) hsz) ?_
      simp -implicitDefEqProofs [wi]
      exact ⟨a6.length - (i + 1), by omega, _, St.le_of (by simp) (by simp [St.trunc, look, mapV, mapC, killP]) rfl (by simp [St.trunc, mapC]), (hI _ _).2 ⟨i + 1, spX x c, by omega, rfl, by rw [← hs2]; exact hr, by omega, by omega, rfl⟩⟩
    · rw [spS_neg h0] at hr
      simp -implicitDefEqProofs [hr]
  · have e : i = a6.length := by omega
    subst e
    rw [List.drop_of_length_le (Nat.le_refl _)] at hr
    simp only [spS] at hr
    simp -implicitDefEqProofs
    intro hm1
    rw [hr]
theorem c_l25Many (xs : List DSel) (K) (hs : xs.length + szR (tSelS xs) ≤ 1048576) : Ct Tryz.prog 42 [.sl .no xs.length (encR .no (tSelS xs))] K (.bool (tooMany xs)) K := by
  have hle := cntS_le xs
  rw [tooMany_sp]
  refine ct_fn { n0 := 5, ex := [], tk := [20] } Tryz.func42 rfl (by kernel_rfl) (by kernel_rfl) rfl ?_
  simp -implicitDefEqProofs [Tryz.f42]
  obtain ⟨I, hI⟩ : ∃ I : Nat → St → Prop, ∀ m s, I m s ↔ ∃ (i : Nat) (c : Int), i ≤ xs.length ∧ m = xs.length - i ∧ spS (xs.drop i) c = spS xs 120 ∧ 120 - cntS (xs.take i) ≤ c ∧ c ≤ 120 ∧
    s = { env := [(0, .sl .no xs.length (encR .no (tSelS xs))), (2, .bool false), (3, .int .i64 c), (4, .int .i64 i)], loc := [], K := [] :: K } := ⟨_, fun _ _ => Iff.rfl⟩
  refine wC_loopI I xs.length ((hI _ _).2 ⟨0, 120, by omega, rfl, rfl, by simp [cntS], by omega, rfl⟩) (St.le_of (by simp) (by simp) rfl rfl) ?_
  intro m s hm
  obtain ⟨i, c, hi, rfl, hr, hb1, hb2, rfl⟩ := (hI _ _).1 hm
  have hcl := cntS_take_le (xs := xs) i
  rcases Nat.lt_or_ge i xs.length with hlt | hge
  · obtain ⟨x, hx⟩ : ∃ x, xs[i]? = some x := ⟨_, List.getElem?_eq_getElem hlt⟩
    have ea := atSel (m := .no) hx
    have es := szR_get (tSelS_get hx)
    have el := szR_take_le (rs := tSelS xs) (i + 1)
    have hct := cntS_take hx
    have hcl2 := cntS_take_le (xs := xs) (i + 1)
    have hcx := cntX_eq x
    have hek := encL_len (m := .no) (r := tSel x)
    rw [tSel_len] at hek
    have htk : (encL .no (tSel x)).take 7 = encL .no (tSel x) := List.take_of_length_le (by omega)
    have wi : IntKind.i64.wrap ((i : Int) + 1) = (i + 1 : Nat) := by rw [wrap64 (by omega) (by omega)]; rfl
    simp -implicitDefEqProofs [hlt, ea, hek, htk, encSelS_len, wi]
    intro hm1
    refine ⟨fun h0 => ?_, fun h0 => ?_⟩
    · have hs2 := spS_drop hx h0
      have hok2 := spX_ok x c
      refine callK_of (c_l11Count _ x c _ (by omega) (by omega) (by omega) (Nat.lt_succ_self _)) ?_
      simp -implicitDefEqProofs [wi]
      exact ⟨xs.length - (i + 1), by omega, _, St.le_of (by simp) (by simp [St.trunc, look, mapV, mapC, killP]) rfl (by simp [St.trunc, mapC]), (hI _ _).2 ⟨i + 1, spX x c, by omega, rfl, by rw [← hs2]; exact hr, by omega, by omega, rfl⟩⟩
    · rw [spS_neg h0] at hr
      simp -implicitDefEqProofs [← hr]
  · have e : i = xs.length := by omega
    subst e
    rw [List.drop_of_length_le (Nat.le_refl _)] at hr
    simp only [spS] at hr
    simp -implicitDefEqProofs
    intro hm1
    rw [hr]
end Go.Proofs.YthagllbnkbahnaaGreat.Abs
