/- UsesOf: the program's and the reference's. No condition. -/
import Derived.Test.YthagllbnkbahnaaGreatUses
set_option linter.unusedVariables false
set_option linter.unusedSimpArgs false
namespace Go.Proofs.YthagllbnkbahnaaGreat.Abs
open Go
set_option maxHeartbeats 2000000
set_option maxRecDepth 100000
mutual
def usesV (ts : List DDef) : DValue → DType → Bool → List DUse
  | ⟨k, tx, items, names⟩, t, has =>
    if k = 1 then [⟨tx, t, has, false⟩]
    else if k = 7 then usesL ts items (innerT t)
    else if k = 8 then (if (defOf ts t.name).kind = 6 then usesO ts items names (defOf ts t.name).inputs else freeU (varsV ⟨k, tx, items, names⟩))
    else []
def usesL (ts : List DDef) : List DValue → DType → List DUse
  | [], _ => []
  | x :: xs, t => usesV ts x t false ++ usesL ts xs t
def usesO (ts : List DDef) : List DValue → List Bs → List DInDef → List DUse
  | [], _, _ => []
  | x :: xs, ns, ins => (match ns with
      | [] => freeU (varsV x)
      | n :: _ => if inOk ins n then usesV ts x (inOf ins n).ty (inOf ins n).has else freeU (varsV x)) ++ usesO ts xs ns.tail ins
end
/-- What a part of an object gives. -/
def usesX (ts : List DDef) (ins : List DInDef) (x : DValue) (n : Option Bs) : List DUse := match n with
  | none => freeU (varsV x)
  | some n => if inOk ins n then usesV ts x (inOf ins n).ty (inOf ins n).has else freeU (varsV x)
theorem usesL_take {ts : List DDef} {xs : List DValue} {t : DType} {i : Nat} {x : DValue} (h : xs[i]? = some x) : usesL ts (xs.take (i + 1)) t = usesL ts (xs.take i) t ++ usesV ts x t false := by
  have happ : ∀ a b : List DValue, usesL ts (a ++ b) t = usesL ts a t ++ usesL ts b t := by
    intro a b; induction a with
    | nil => simp [usesL]
    | cons y a ih => simp [usesL, ih]
  rw [List.take_add_one, h, happ]; simp [usesL]
theorem usesO_take {ts : List DDef} {ins : List DInDef} : ∀ {xs : List DValue} {ns : List Bs} {i : Nat} {x : DValue}, xs[i]? = some x → usesO ts (xs.take (i + 1)) ns ins = usesO ts (xs.take i) ns ins ++ usesX ts ins x ns[i]? := by
  intro xs; induction xs with
  | nil => intro ns i x h; simp at h
  | cons y xs ih =>
    intro ns i x h
    cases i with
    | zero =>
      simp at h; subst h
      cases ns <;> simp [usesO, usesX]
    | succ i =>
      simp only [List.getElem?_cons_succ] at h
      rw [List.take_succ_cons, List.take_succ_cons]
      simp only [usesO]
      rw [ih h, List.append_assoc]
      congr 3
      cases ns <;> simp
mutual
theorem usesV_len (ts : List DDef) : ∀ (v : DValue) (t : DType) (has : Bool), (usesV ts v t has).length ≤ 1 + szL (tValue v)
  | ⟨k, tx, items, names⟩, t, has => by
    have h1 := usesL_len ts items (innerT t)
    have h2 := usesO_len ts items names (defOf ts t.name).inputs
    have h3 := varsV_len ⟨k, tx, items, names⟩
    simp only [tValue, szL, szT, tValueS_len, tStrS_len] at h3 ⊢
    simp only [usesV]
    split
    · simp
    · split
      · omega
      · split
        · split
          · omega
          · rw [freeU_len]; omega
        · simp
theorem usesL_len (ts : List DDef) : ∀ (xs : List DValue) (t : DType), (usesL ts xs t).length ≤ xs.length + szR (tValueS xs)
  | [], t => by simp [usesL]
  | x :: xs, t => by
    have h1 := usesV_len ts x t false
    have h2 := usesL_len ts xs t
    simp only [usesL, tValueS, szR, List.length_cons, List.length_append]; omega
theorem usesO_len (ts : List DDef) : ∀ (xs : List DValue) (ns : List Bs) (ins : List DInDef), (usesO ts xs ns ins).length ≤ xs.length + szR (tValueS xs)
  | [], ns, ins => by simp [usesO]
  | x :: xs, ns, ins => by
    have h2 := usesO_len ts xs ns.tail ins
    have h3 := varsV_len x
    simp only [usesO, tValueS, szR, List.length_cons, List.length_append]
    cases ns with
    | nil => simp only [freeU_len] at h2 ⊢; omega
    | cons n ns =>
      have h1 := usesV_len ts x (inOf ins n).ty (inOf ins n).has
      simp only
      split
      · omega
      · rw [freeU_len]; omega
end
theorem usesV_eq (ts : List DDef) (v : DValue) (t : DType) (has : Bool) : usesV ts v t has = if v.kind = 1 then [⟨v.text, t, has, false⟩] else if v.kind = 7 then usesL ts v.items (innerT t) else if v.kind = 8 then (if (defOf ts t.name).kind = 6 then usesO ts v.items v.names (defOf ts t.name).inputs else freeU (varsV v)) else [] := by
  obtain ⟨k, tx, items, names⟩ := v; simp [usesV]
theorem c_UsesOf_rec : ∀ N : Nat, ∀ (s : DSchema) (v : DValue) (t : DType) (has : Bool) (K : List (List (List AC))) (hs : szL (tValue v) ≤ 1048576) (hN : SizeOf.sizeOf v < N),
    Ct Tryz.prog 69 [.agg (encL .no (tSchema s)), .agg (encL .no (tValue v)), .agg (encL .no (tType t)), .bool has] K (.sl (.of 77) (usesV s.types v t has).length (encR .of (tUseS (usesV s.types v t has)))) K := by
  intro N
  induction N with
  | zero => intros; omega
  | succ N ih =>
  intro s v t has K hs hN
  have hul := usesV_len s.types v t has
  generalize hr : usesV s.types v t has = r at *
  rw [usesV_eq] at hr
  have hfu := fun K => c_freeUses v K hs
  have htd := fun K => c_typeDef s t.name K
  obtain ⟨x0, x1, x2, x3⟩ := v
  obtain ⟨t0, t1⟩ := t
  obtain ⟨s0, s1, s2⟩ := s
  dsimp only at hr htd
  simp only [tValue, szL, szT, tValueS_len, tStrS_len] at hs
  simp only [tValue, encL_app, encL, encT, List.cons_append, List.nil_append, Md.ow_no, tStrS_len, tValueS_len] at hfu
  simp only [tSchema, encL_app, encL, encT, List.cons_append, List.nil_append, Md.ow_no, tDefS_len, tRootS_len] at htd
  refine ct_fn { n0 := 18, ex := [20, 32, 33, 34, 61, 62, 63], tk := [18, 27, 28, 38, 43, 44, 52, 59, 68, 82, 86, 93, 94, 95, 97, 98, 100] } Tryz.func69 rfl (by kernel_rfl) (by kernel_rfl) rfl ?_
  simp -implicitDefEqProofs [Tryz.f69, tValue, tType, tSchema, encL_app, encL, encT]
  refine ⟨fun h1 => ?_, fun h1 => ⟨fun h7 => ?_, fun h7 => ⟨fun h8 => ?_, fun h8 => ?_⟩⟩⟩
  · rw [if_pos h1] at hr
    subst hr
    simp [tUseS, tUse, tType, encR, encL, encT]
  · rw [if_neg h1, if_pos h7] at hr
    intro hm0
    obtain ⟨I, hI⟩ : ∃ I : Nat → St → Prop, ∀ m s, I m s ↔ ∃ (i : Nat) (L : List DUse), i ≤ x2.length ∧ m = x2.length - i ∧ L = usesL s0 (x2.take i) (innerT ⟨t0, t1⟩) ∧
      s = { env := [(0, .agg [.sl .no s0.length (encR .no (tDefS s0)), .sl .no s1.length (encR .no (tDefS s1)), .sl .no s2.length (encR .no (tRootS s2))]), (1, .agg [.int .i64 x0, .str x1, .sl .no x2.length (encR .no (tValueS x2)), .sl .no x3.length (encR .no (tStrS x3))]), (2, .agg [.str t0, .str t1]), (3, .bool has), (4, .ptr 0 0 0), (5, .ptr 0 1 0), (6, .ptr 0 2 0), (8, .sl .nil 0 []), (9, .sl (.of 77) L.length (encR .of (tUseS L))), (20, .int .i64 x0), (32, .sl .no x2.length (encR .no (tValueS x2))), (33, .int .i64 x2.length), (34, .int .i64 i)], loc := [],
            K := [[.sl .no s0.length (encR .no (tDefS s0)), .sl .no s1.length (encR .no (tDefS s1)), .sl .no s2.length (encR .no (tRootS s2))], [.int .i64 x0, .str x1, .sl .no x2.length (encR .no (tValueS x2)), .sl .no x3.length (encR .no (tStrS x3))], [.str t0, .str t1]] :: K } := ⟨_, fun _ _ => Iff.rfl⟩
    refine wC_loopI I x2.length ((hI _ _).2 ⟨0, [], by omega, rfl, by simp [usesL], rfl⟩) (St.le_of (by simp) (by simp [tUseS, encR]) rfl rfl) ?_
    intro m s hm
    obtain ⟨i, L, hi, rfl, hL, rfl⟩ := (hI _ _).1 hm
    have hol := usesL_len s0 (x2.take i) (innerT ⟨t0, t1⟩)
    have htl := szR_take_le (rs := tValueS x2) i
    rw [tValueS_take] at htl
    rw [← hL, List.length_take, Nat.min_eq_left hi] at hol
    have hlc : (encR .of (tUseS L)).length = L.length * 5 := by rw [encUseS_len]
    rcases Nat.lt_or_ge i x2.length with hlt | hge
    · obtain ⟨x, hx⟩ : ∃ x, x2[i]? = some x := ⟨_, List.getElem?_eq_getElem hlt⟩
      have ea := atValue (m := .no) hx
      have es := szR_get (tValueS_get hx)
      have el := szR_take_le (rs := tValueS x2) (i + 1)
      have hnx := usesL_take (ts := s0) (t := innerT ⟨t0, t1⟩) hx
      rw [← hL] at hnx
      have hc := fun K => ih ⟨s0, s1, s2⟩ x (innerT ⟨t0, t1⟩) false K (by omega) (by have := List.sizeOf_lt_of_mem (List.mem_of_getElem? hx); simp at hN; omega)
      have hxl := usesV_len s0 x (innerT ⟨t0, t1⟩) false
      dsimp only at hc
      generalize usesV s0 x (innerT ⟨t0, t1⟩) false = u at *
      have hn : encR .of (tUseS (L ++ u)) = encR .of (tUseS L) ++ encR .of (tUseS u) := by rw [tUseS_app, encR_app]
      have hlu : (encR .of (tUseS u)).length = u.length * 5 := by rw [encUseS_len]
      have wi : IntKind.i64.wrap ((i : Int) + 1) = (i + 1 : Nat) := by rw [wrap64 (by omega) (by omega)]; rfl
      obtain ⟨v0, v1, v2, v3⟩ := x
      simp only [innerT, tSchema, tType, tValue, encL_app, encL, encT, List.cons_append, List.nil_append, Md.ow_no, tStrS_len, tValueS_len, tDefS_len, tRootS_len] at hc ea
      simp -implicitDefEqProofs [hlt, ea, encValueS_len]
      refine wRun_draw true rfl (by decide +kernel) ?_
      simp -implicitDefEqProofs
      refine callK_of (c_Inner t0 t1 _) ?_
      simp -implicitDefEqProofs
      refine callK_of (hc _) ?_
      simp -implicitDefEqProofs [wi, hlu]
      rw [← hn]
      refine ⟨by unfold maxLen; omega, by omega, ?_⟩
      exact ⟨x2.length - (i + 1), by omega, _, St.le_of (by simp) (by simp [St.trunc, look, mapV, mapC, killP]) rfl (by simp [St.trunc, mapC]), (hI _ _).2 ⟨i + 1, L ++ u, by omega, rfl, hnx.symm, rfl⟩⟩
    · have e : i = x2.length := by omega
      subst e
      rw [List.take_of_length_le (Nat.le_refl _), hr] at hL
      subst hL
      simp -implicitDefEqProofs
  · rw [if_neg h1, if_neg h7, if_pos h8] at hr
    refine callK_of (htd _) ?_
    generalize defOf s0 t0 = d at *
    generalize decide (0 ≤ defAt s0 t0) = b0
    obtain ⟨d0, d1, d2, d3, d4, d5, d6, d7, d8, d9, d10⟩ := d
    dsimp only at hr
    simp -implicitDefEqProofs [tDef, encL, encT]
    refine ⟨fun h6 => ?_, fun h6 => ?_⟩
    · rw [if_neg h6] at hr
      refine callK_of (hfu _) ?_
      rw [hr]
      simp -implicitDefEqProofs
    · rw [if_pos h6] at hr
      intro hm0
      obtain ⟨I, hI⟩ : ∃ I : Nat → St → Prop, ∀ m s, I m s ↔ ∃ (i : Nat) (L : List DUse), i ≤ x2.length ∧ m = x2.length - i ∧ L = usesO s0 (x2.take i) x3 d6 ∧
        s = { env := [(0, .agg [.sl .no s0.length (encR .no (tDefS s0)), .sl .no s1.length (encR .no (tDefS s1)), .sl .no s2.length (encR .no (tRootS s2))]), (1, .agg [.int .i64 x0, .str x1, .sl .no x2.length (encR .no (tValueS x2)), .sl .no x3.length (encR .no (tStrS x3))]), (2, .agg [.str t0, .str t1]), (3, .bool has), (4, .ptr 0 0 0), (5, .ptr 0 1 0), (6, .ptr 0 2 0), (8, .sl .nil 0 []), (9, .sl (.of 77) L.length (encR .of (tUseS L))), (20, .int .i64 x0), (12, .ptr 0 3 0), (13, .bool b0), (61, .sl .no x2.length (encR .no (tValueS x2))), (62, .int .i64 x2.length), (63, .int .i64 i)], loc := [],
              K := [[.sl .no s0.length (encR .no (tDefS s0)), .sl .no s1.length (encR .no (tDefS s1)), .sl .no s2.length (encR .no (tRootS s2))], [.int .i64 x0, .str x1, .sl .no x2.length (encR .no (tValueS x2)), .sl .no x3.length (encR .no (tStrS x3))], [.str t0, .str t1], [.int .i64 d0, .bool d1, .str d2, .str d3, .sl .no d4.length (encR .no (tStrS d4)), .sl .no d5.length (encR .no (tFieldDefS d5)), .sl .no d6.length (encR .no (tInDefS d6)), .sl .no d7.length (encR .no (tEnumDefS d7)), .sl .no d8.length (encR .no (tRootS d8)), .bool d9, .sl .no d10.length (encR .no (tDirS d10))]] :: K } := ⟨_, fun _ _ => Iff.rfl⟩
      refine wC_loopI I x2.length ((hI _ _).2 ⟨0, [], by omega, rfl, by simp [usesO], rfl⟩) (St.le_of (by simp) (by simp [tUseS, encR]) rfl rfl) ?_
      intro m s hm
      obtain ⟨i, L, hi, rfl, hL, rfl⟩ := (hI _ _).1 hm
      have hol := usesO_len s0 (x2.take i) x3 d6
      have htl := szR_take_le (rs := tValueS x2) i
      rw [tValueS_take] at htl
      rw [← hL, List.length_take, Nat.min_eq_left hi] at hol
      have hlc : (encR .of (tUseS L)).length = L.length * 5 := by rw [encUseS_len]
      rcases Nat.lt_or_ge i x2.length with hlt | hge
      · obtain ⟨x, hx⟩ : ∃ x, x2[i]? = some x := ⟨_, List.getElem?_eq_getElem hlt⟩
        have ea := atValue (m := .no) hx
        have es := szR_get (tValueS_get hx)
        have el := szR_take_le (rs := tValueS x2) (i + 1)
        have hnx := usesO_take (ts := s0) (ins := d6) (ns := x3) hx
        rw [← hL] at hnx
        have hsx : SizeOf.sizeOf x < N := by have := List.sizeOf_lt_of_mem (List.mem_of_getElem? hx); simp at hN; omega
        have hf := fun K => c_freeUses x K (by omega)
        have hfl : (freeU (varsV x)).length ≤ 1 + szL (tValue x) := by rw [freeU_len]; exact varsV_len x
        have hun := fun ty hs' => usesV_len s0 x ty hs'
        have hch := fun ty hs' K => ih ⟨s0, s1, s2⟩ x ty hs' K (by omega) hsx
        dsimp only at hch
        have wi : IntKind.i64.wrap ((i : Int) + 1) = (i + 1 : Nat) := by rw [wrap64 (by omega) (by omega)]; rfl
        rcases Nat.lt_or_ge i x3.length with hn3 | hn3
        · obtain ⟨n, hn⟩ : ∃ n, x3[i]? = some n := ⟨_, List.getElem?_eq_getElem hn3⟩
          have en := atStr (m := .no) hn
          simp only [Nat.mul_one, encL, encT] at en
          rw [hn] at hnx
          simp only [usesX] at hnx
          have hin := fun K => c_inNamed d6 n K
          cases hok : inOk d6 n with
          | true =>
            rw [hok] at hnx hin
            simp only [if_true] at hnx
            have hc := hch (inOf d6 n).ty (inOf d6 n).has
            have hxl := hun (inOf d6 n).ty (inOf d6 n).has
            generalize inOf d6 n = q at *
            generalize usesV s0 x q.ty q.has = u at *
            have hns : encR .of (tUseS (L ++ u)) = encR .of (tUseS L) ++ encR .of (tUseS u) := by rw [tUseS_app, encR_app]
            have hlu : (encR .of (tUseS u)).length = u.length * 5 := by rw [encUseS_len]
            obtain ⟨v0, v1, v2, v3⟩ := x
            obtain ⟨q0, q1, ⟨q2, q3⟩, q4, ⟨q5, q6, q7, q8⟩, q9⟩ := q
            simp only [tInDef, tSchema, tType, tValue, encL_app, encL, encT, List.cons_append, List.nil_append, Md.ow_no, tStrS_len, tValueS_len, tDefS_len, tRootS_len, tDirS_len] at hc ea hin
            simp -implicitDefEqProofs [hlt, hn3, ea, encValueS_len]
            intro hm1
            refine wRun_draw true rfl (by decide +kernel) ?_
            simp -implicitDefEqProofs [hn3, en, encStrS_len]
            refine callK_of (hin _) ?_
            simp -implicitDefEqProofs
            refine callK_of (hc _) ?_
            simp -implicitDefEqProofs [wi, hlu]
            rw [← hns]
            refine ⟨by unfold maxLen; omega, by omega, ?_⟩
            exact ⟨x2.length - (i + 1), by omega, _, St.le_of (by simp) (by simp [St.trunc, look, mapV, mapC, killP]) rfl (by simp [St.trunc, mapC]), (hI _ _).2 ⟨i + 1, L ++ u, by omega, rfl, hnx.symm, rfl⟩⟩
          | false =>
            rw [hok] at hnx hin
            simp only [Bool.false_eq_true, if_false] at hnx
            generalize inOf d6 n = q at *
            generalize freeU (varsV x) = u at *
            have hns : encR .of (tUseS (L ++ u)) = encR .of (tUseS L) ++ encR .of (tUseS u) := by rw [tUseS_app, encR_app]
            have hlu : (encR .of (tUseS u)).length = u.length * 5 := by rw [encUseS_len]
            obtain ⟨v0, v1, v2, v3⟩ := x
            obtain ⟨q0, q1, ⟨q2, q3⟩, q4, ⟨q5, q6, q7, q8⟩, q9⟩ := q
            simp only [tInDef, tSchema, tType, tValue, encL_app, encL, encT, List.cons_append, List.nil_append, Md.ow_no, tStrS_len, tValueS_len, tDefS_len, tRootS_len, tDirS_len] at hf ea hin
            simp -implicitDefEqProofs [hlt, hn3, ea, encValueS_len]
            intro hm1
            refine wRun_draw true rfl (by decide +kernel) ?_
            simp -implicitDefEqProofs [hn3, en, encStrS_len]
            refine callK_of (hin _) ?_
            simp -implicitDefEqProofs
            refine callK_of (hf _) ?_
            simp -implicitDefEqProofs [wi, hlu]
            rw [← hns]
            refine ⟨by unfold maxLen; omega, by omega, ?_⟩
            exact ⟨x2.length - (i + 1), by omega, _, St.le_of (by simp) (by simp [St.trunc, look, mapV, mapC, killP]) rfl (by simp [St.trunc, mapC]), (hI _ _).2 ⟨i + 1, L ++ u, by omega, rfl, hnx.symm, rfl⟩⟩
        · have hn : x3[i]? = none := List.getElem?_eq_none hn3
          have hn4 : ¬ i < x3.length := by omega
          rw [hn] at hnx
          simp only [usesX] at hnx
          generalize freeU (varsV x) = u at *
          have hns : encR .of (tUseS (L ++ u)) = encR .of (tUseS L) ++ encR .of (tUseS u) := by rw [tUseS_app, encR_app]
          have hlu : (encR .of (tUseS u)).length = u.length * 5 := by rw [encUseS_len]
          obtain ⟨v0, v1, v2, v3⟩ := x
          simp only [tValue, encL_app, encL, encT, List.cons_append, List.nil_append, Md.ow_no, tStrS_len, tValueS_len] at hf ea
          simp -implicitDefEqProofs [hlt, hn3, hn4, ea, encValueS_len]
          intro hm1
          refine callK_of (hf _) ?_
          simp -implicitDefEqProofs [wi, hlu]
          rw [← hns]
          refine ⟨by unfold maxLen; omega, by omega, ?_⟩
          exact ⟨x2.length - (i + 1), by omega, _, St.le_of (by simp) (by simp [St.trunc, look, mapV, mapC, killP]) rfl (by simp [St.trunc, mapC]), (hI _ _).2 ⟨i + 1, L ++ u, by omega, rfl, hnx.symm, rfl⟩⟩
      · have e : i = x2.length := by omega
        subst e
        rw [List.take_of_length_le (Nat.le_refl _), hr] at hL
        subst hL
        simp -implicitDefEqProofs
  · rw [if_neg h1, if_neg h7, if_neg h8] at hr
    subst hr
    simp [tUseS, encR]
theorem kind6 {xs : List DDef} {name : Bs} : kindOf xs name = 6 ↔ (defOf xs name).kind = 6 := by
  unfold kindOf
  by_cases h : 0 ≤ defAt xs name
  · rw [if_pos h]
  · rw [if_neg h]
    have : defOf xs name = zDef := by unfold defOf; rw [if_pos (by omega)]
    rw [this]
    constructor
    · intro h2; split at h2 <;> omega
    · intro h2; simp [zDef] at h2
theorem c_l28Uses_rec : ∀ N : Nat, ∀ (s : DSchema) (v : DValue) (t : DType) (has : Bool) (out : List DUse) (K : List (List (List AC))) (hs : szL (tValue v) ≤ 1048576) (hb : out.length + szL (tValue v) ≤ 50000000) (hN : SizeOf.sizeOf v < N),
    Ct Tryz.prog 100 [.agg (encL .no (tSchema s)), .agg (encL .no (tValue v)), .agg (encL .no (tType t)), .bool has, .sl (.of 77) out.length (encR .of (tUseS out))] K
      (.sl (.of 77) (out ++ usesV s.types v t has).length (encR .of (tUseS (out ++ usesV s.types v t has)))) K := by
  intro N
  induction N with
  | zero => intros; omega
  | succ N ih =>
  intro s v t has out K hs hb hN
  have hul := usesV_len s.types v t has
  generalize hr : out ++ usesV s.types v t has = r at *
  rw [usesV_eq] at hr
  have hfu := fun K => c_l28Free v out K hs (by omega)
  have htd := fun K => c_KindOfS s t.name K
  have hta := fun K => c_TypeAtS s t.name K
  obtain ⟨x0, x1, x2, x3⟩ := v
  obtain ⟨t0, t1⟩ := t
  obtain ⟨s0, s1, s2⟩ := s
  dsimp only at hr htd hta
  simp only [tValue, szL, szT, tValueS_len, tStrS_len] at hs hb
  simp only [tValue, encL_app, encL, encT, List.cons_append, List.nil_append, Md.ow_no, tStrS_len, tValueS_len] at hfu
  simp only [tSchema, encL_app, encL, encT, List.cons_append, List.nil_append, Md.ow_no, tDefS_len, tRootS_len] at htd hta
  have hlo : (encR .of (tUseS out)).length = out.length * 5 := by rw [encUseS_len]
  refine ct_fn { n0 := 15, ex := [16], tk := [19, 24, 25, 26, 44, 45, 51, 54, 55, 61, 88, 96, 97, 114, 115, 116] } Tryz.func100 rfl (by kernel_rfl) (by kernel_rfl) rfl ?_
  simp -implicitDefEqProofs [Tryz.f100, tValue, tType, tSchema, encL_app, encL, encT]
  refine ⟨fun h1 => ?_, fun h1 => ⟨fun h7 => ?_, fun h7 => ⟨fun h8 => ?_, fun h8 => ?_⟩⟩⟩
  · rw [if_pos h1] at hr
    have hn := snocUse (m := .of) (xs := out) (x := ⟨x1, ⟨t0, t1⟩, has, false⟩)
    simp only [tUse, tType, encL_app, encL, encT, List.cons_append, List.nil_append] at hn
    rw [← hn]
    refine ⟨by unfold maxLen; omega, by omega, ?_⟩
    rw [← hr]; simp
  · rw [if_neg h1, if_pos h7] at hr
    obtain ⟨I, hI⟩ : ∃ I : Nat → St → Prop, ∀ m s, I m s ↔ ∃ (i : Nat) (L : List DUse), i ≤ x2.length ∧ m = x2.length - i ∧ L = out ++ usesL s0 (x2.take i) (innerT ⟨t0, t1⟩) ∧
      s = { env := [(0, .agg [.sl .no s0.length (encR .no (tDefS s0)), .sl .no s1.length (encR .no (tDefS s1)), .sl .no s2.length (encR .no (tRootS s2))]), (1, .agg [.int .i64 x0, .str x1, .sl .no x2.length (encR .no (tValueS x2)), .sl .no x3.length (encR .no (tStrS x3))]), (2, .agg [.str t0, .str t1]), (3, .bool has), (4, .sl (.of 77) L.length (encR .of (tUseS L))), (5, .ptr 0 0 0), (6, .ptr 0 1 0), (7, .ptr 0 2 0), (10, .sl .nil 0 []), (11, .int .i64 i)], loc := [], K := [[.sl .no s0.length (encR .no (tDefS s0)), .sl .no s1.length (encR .no (tDefS s1)), .sl .no s2.length (encR .no (tRootS s2))], [.int .i64 x0, .str x1, .sl .no x2.length (encR .no (tValueS x2)), .sl .no x3.length (encR .no (tStrS x3))], [.str t0, .str t1]] :: K } := ⟨_, fun _ _ => Iff.rfl⟩
    refine wC_loopI I x2.length ((hI _ _).2 ⟨0, out, by omega, rfl, by simp [usesL], rfl⟩) (St.le_of (by simp) (by simp) rfl rfl) ?_
    intro m s hm
    obtain ⟨i, L, hi, rfl, hL, rfl⟩ := (hI _ _).1 hm
    have hol := usesL_len s0 (x2.take i) (innerT ⟨t0, t1⟩)
    have hLl : L.length = out.length + (usesL s0 (x2.take i) (innerT ⟨t0, t1⟩)).length := by rw [hL, List.length_append]
    rw [List.length_take, Nat.min_eq_left hi] at hol
    rcases Nat.lt_or_ge i x2.length with hlt | hge
    · obtain ⟨x, hx⟩ : ∃ x, x2[i]? = some x := ⟨_, List.getElem?_eq_getElem hlt⟩
      have ea := atValue (m := .no) hx
      have es := szR_get (tValueS_get hx)
      have el := szR_take_le (rs := tValueS x2) (i + 1)
      rw [tValueS_take] at es el
      rw [tValueS_take] at es
      have hnx := usesL_take (ts := s0) (t := innerT ⟨t0, t1⟩) hx
      have hc := fun K => ih ⟨s0, s1, s2⟩ x (innerT ⟨t0, t1⟩) false L K (by omega) (by omega) (by have := List.sizeOf_lt_of_mem (List.mem_of_getElem? hx); simp at hN; omega)
      dsimp only at hc
      have hno : L ++ usesV s0 x (innerT ⟨t0, t1⟩) false = out ++ usesL s0 (x2.take (i + 1)) (innerT ⟨t0, t1⟩) := by rw [hnx, hL, List.append_assoc]
      generalize L ++ usesV s0 x (innerT ⟨t0, t1⟩) false = M at *
      have wi : IntKind.i64.wrap ((i : Int) + 1) = (i + 1 : Nat) := by rw [wrap64 (by omega) (by omega)]; rfl
      obtain ⟨v0, v1, v2, v3⟩ := x
      simp only [innerT, tSchema, tType, tValue, encL_app, encL, encT, List.cons_append, List.nil_append, Md.ow_no, tStrS_len, tValueS_len, tDefS_len, tRootS_len] at hc ea
      simp -implicitDefEqProofs [hlt, ea, encValueS_len]
      intro hm1
      refine wRun_draw true rfl (by decide +kernel) ?_
      simp -implicitDefEqProofs [hlt, ea, encValueS_len]
      refine callK_of (c_InnerS t0 t1 _) ?_
      simp -implicitDefEqProofs
      refine callK_of (hc _) ?_
      simp -implicitDefEqProofs [wi]
      exact ⟨x2.length - (i + 1), by omega, _, St.le_of (by simp) (by simp [St.trunc, look, mapV, mapC, killP]) rfl (by simp [St.trunc, mapC]), (hI _ _).2 ⟨i + 1, M, by omega, rfl, hno, rfl⟩⟩
    · have e : i = x2.length := by omega
      subst e
      rw [List.take_of_length_le (Nat.le_refl _), hr] at hL
      subst hL
      simp -implicitDefEqProofs
  · rw [if_neg h1, if_neg h7, if_pos h8] at hr
    refine callK_of (htd _) ?_
    simp -implicitDefEqProofs
    refine ⟨fun h6 => ?_, fun h6 => ?_⟩
    · rw [if_neg (fun h => h6 (kind6.2 h))] at hr
      refine callK_of (hfu _) ?_
      rw [hr]
      simp -implicitDefEqProofs
    · rw [if_pos (kind6.1 h6)] at hr
      have hk6 := kind6.1 h6
      have hpos : ¬ defAt s0 t0 < 0 := by
        intro hneg
        unfold defOf at hk6
        rw [if_pos hneg] at hk6
        simp [zDef] at hk6
      obtain ⟨j, d, ej, hjl, hd, hde⟩ := defAt_get hpos
      have ead := atDef (m := .no) hd
      rw [hde] at hr
      rw [ej] at hta
      obtain ⟨d0, d1, d2, d3, d4, d5, d6, d7, d8, d9, d10⟩ := d
      dsimp only at hr
      simp only [tDef, encL, encT, List.cons_append, List.nil_append, Md.ow_no, tInDefS_len] at ead
      refine wRun_draw true rfl (by decide +kernel) ?_
      simp -implicitDefEqProofs
      refine callK_of (hta _) ?_
      simp -implicitDefEqProofs [hjl, ead, encDefS_len]
      obtain ⟨I, hI⟩ : ∃ I : Nat → St → Prop, ∀ m s, I m s ↔ ∃ (i : Nat) (L : List DUse), i ≤ x2.length ∧ m = x2.length - i ∧ L = out ++ usesO s0 (x2.take i) x3 d6 ∧
        s = { env := [(0, .agg [.sl .no s0.length (encR .no (tDefS s0)), .sl .no s1.length (encR .no (tDefS s1)), .sl .no s2.length (encR .no (tRootS s2))]), (1, .agg [.int .i64 x0, .str x1, .sl .no x2.length (encR .no (tValueS x2)), .sl .no x3.length (encR .no (tStrS x3))]), (2, .agg [.str t0, .str t1]), (3, .bool has), (4, .sl (.of 77) L.length (encR .of (tUseS L))), (5, .ptr 0 0 0), (6, .ptr 0 1 0), (7, .ptr 0 2 0), (10, .sl .nil 0 []), (12, .sl .no d6.length (encR .no (tInDefS d6))), (13, .int .i64 i)], loc := [], K := [[.sl .no s0.length (encR .no (tDefS s0)), .sl .no s1.length (encR .no (tDefS s1)), .sl .no s2.length (encR .no (tRootS s2))], [.int .i64 x0, .str x1, .sl .no x2.length (encR .no (tValueS x2)), .sl .no x3.length (encR .no (tStrS x3))], [.str t0, .str t1]] :: K } := ⟨_, fun _ _ => Iff.rfl⟩
      refine wC_loopI I x2.length ((hI _ _).2 ⟨0, out, by omega, rfl, by simp [usesO], rfl⟩) (St.le_of (by simp) (by simp) rfl rfl) ?_
      intro m s hm
      obtain ⟨i, L, hi, rfl, hL, rfl⟩ := (hI _ _).1 hm
      have hol := usesO_len s0 (x2.take i) x3 d6
      have hLl : L.length = out.length + (usesO s0 (x2.take i) x3 d6).length := by rw [hL, List.length_append]
      rw [List.length_take, Nat.min_eq_left hi] at hol
      rcases Nat.lt_or_ge i x2.length with hlt | hge
      · obtain ⟨x, hx⟩ : ∃ x, x2[i]? = some x := ⟨_, List.getElem?_eq_getElem hlt⟩
        have ea := atValue (m := .no) hx
        have es := szR_get (tValueS_get hx)
        have el := szR_take_le (rs := tValueS x2) (i + 1)
        rw [tValueS_take] at es el
        rw [tValueS_take] at es
        have hnx := usesO_take (ts := s0) (ins := d6) (ns := x3) hx
        have hsx : SizeOf.sizeOf x < N := by have := List.sizeOf_lt_of_mem (List.mem_of_getElem? hx); simp at hN; omega
        have hf := fun L K (h : L.length ≤ 100000000) => c_l28Free x L K (by omega) h
        have hfl : (freeU (varsV x)).length ≤ 1 + szL (tValue x) := by rw [freeU_len]; exact varsV_len x
        have hch := fun ty hs' K => ih ⟨s0, s1, s2⟩ x ty hs' L K (by omega) (by omega) hsx
        dsimp only at hch
        have wi : IntKind.i64.wrap ((i : Int) + 1) = (i + 1 : Nat) := by rw [wrap64 (by omega) (by omega)]; rfl
        rcases Nat.lt_or_ge i x3.length with hn3 | hn3
        · obtain ⟨n, hn⟩ : ∃ n, x3[i]? = some n := ⟨_, List.getElem?_eq_getElem hn3⟩
          have en := atStr (m := .no) hn
          simp only [Nat.mul_one, encL, encT] at en
          rw [hn] at hnx
          simp only [usesX] at hnx
          rcases Nat.lt_or_ge 100 d6.length with hg | hg
          · have hok : inOk d6 n = false := by unfold inOk; rw [decide_eq_false (by omega : ¬ d6.length ≤ 100), Bool.and_false]
            have hg2 : ¬ (d6.length : Int) ≤ 100 := by omega
            rw [hok] at hnx
            simp only [Bool.false_eq_true, if_false] at hnx
            have hM := hf L
            have hno : L ++ freeU (varsV x) = out ++ usesO s0 (x2.take (i + 1)) x3 d6 := by rw [hnx, hL, List.append_assoc]
            have hfl' : (L ++ freeU (varsV x)).length ≤ L.length + (1 + szL (tValue x)) := by rw [List.length_append]; omega
            have hc := fun K => hM K (by omega)
            generalize L ++ freeU (varsV x) = M at *
            obtain ⟨v0, v1, v2, v3⟩ := x
            simp only [tValue, encL_app, encL, encT, List.cons_append, List.nil_append, Md.ow_no, tStrS_len, tValueS_len] at hc ea
            simp -implicitDefEqProofs [hlt, hn3, ea, encValueS_len, hg2]
            intro hm1 hm2 hm3
            refine callK_of (hc _) ?_
            simp -implicitDefEqProofs [wi]
            exact ⟨x2.length - (i + 1), by omega, _, St.le_of (by simp) (by simp [St.trunc, look, mapV, mapC, killP]) rfl (by simp [St.trunc, mapC]), (hI _ _).2 ⟨i + 1, M, by omega, rfl, hno, rfl⟩⟩
          · have hg2 : (d6.length : Int) ≤ 100 := by omega
            rcases (by omega : inAt d6 n < 0 ∨ 0 ≤ inAt d6 n) with hneg | hpos2
            · have hok : inOk d6 n = false := by unfold inOk; rw [decide_eq_false (by omega : ¬ 0 ≤ inAt d6 n), Bool.false_and]
              rw [hok] at hnx
              simp only [Bool.false_eq_true, if_false] at hnx
              have hM := hf L
              have hno : L ++ freeU (varsV x) = out ++ usesO s0 (x2.take (i + 1)) x3 d6 := by rw [hnx, hL, List.append_assoc]
              have hfl' : (L ++ freeU (varsV x)).length ≤ L.length + (1 + szL (tValue x)) := by rw [List.length_append]; omega
              have hc := fun K => hM K (by omega)
              generalize L ++ freeU (varsV x) = M at *
              obtain ⟨v0, v1, v2, v3⟩ := x
              simp only [tValue, encL_app, encL, encT, List.cons_append, List.nil_append, Md.ow_no, tStrS_len, tValueS_len] at hc ea
              simp -implicitDefEqProofs [hlt, hn3, ea, en, encStrS_len, encValueS_len, hg2]
              intro hm1 hm2 hm3
              refine callK_of (c_InAtS d6 n _) ?_
              simp -implicitDefEqProofs [hneg, (by omega : ¬ 0 ≤ inAt d6 n), hlt, ea, encValueS_len]
              refine callK_of (hc _) ?_
              simp -implicitDefEqProofs [wi]
              exact ⟨x2.length - (i + 1), by omega, _, St.le_of (by simp) (by simp [St.trunc, look, mapV, mapC, killP]) rfl (by simp [St.trunc, mapC]), (hI _ _).2 ⟨i + 1, M, by omega, rfl, hno, rfl⟩⟩
            · obtain ⟨p, q, ep, hpl, hq⟩ := inAt_get hpos2
              have hok : inOk d6 n = true := by unfold inOk; rw [decide_eq_true hpos2, decide_eq_true hg]; rfl
              have eq : inOf d6 n = q := by unfold inOf; rw [if_neg (by omega), ep, Int.toNat_natCast, hq]; rfl
              rw [hok, eq] at hnx
              simp only [if_true] at hnx
              have hc := hch q.ty q.has
              have hno : L ++ usesV s0 x q.ty q.has = out ++ usesO s0 (x2.take (i + 1)) x3 d6 := by rw [hnx, hL, List.append_assoc]
              generalize L ++ usesV s0 x q.ty q.has = M at *
              have eq2 := atInDef (m := .no) hq
              obtain ⟨v0, v1, v2, v3⟩ := x
              obtain ⟨q0, q1, ⟨q2, q3⟩, q4, ⟨q5, q6, q7, q8⟩, q9⟩ := q
              simp only [tInDef, tSchema, tType, tValue, encL_app, encL, encT, List.cons_append, List.nil_append, Md.ow_no, tStrS_len, tValueS_len, tDefS_len, tRootS_len, tDirS_len] at hc ea eq2
              simp -implicitDefEqProofs [hlt, hn3, ea, en, encStrS_len, encValueS_len, hg2]
              intro hm1 hm2 hm3
              refine callK_of (c_InAtS d6 n _) ?_
              rw [ep]
              simp -implicitDefEqProofs [(by omega : ¬ (p : Int) < 0), (by omega : 0 ≤ (p : Int)), hlt, ea, encValueS_len]
              refine ⟨fun h => absurd h (by omega), ?_⟩
              refine wRun_draw true rfl (by decide +kernel) ?_
              simp -implicitDefEqProofs [hlt, ea, encValueS_len, hpl, eq2, encInDefS_len]
              refine callK_of (hc _) ?_
              simp -implicitDefEqProofs [wi]
              exact ⟨x2.length - (i + 1), by omega, _, St.le_of (by simp) (by simp [St.trunc, look, mapV, mapC, killP]) rfl (by simp [St.trunc, mapC]), (hI _ _).2 ⟨i + 1, M, by omega, rfl, hno, rfl⟩⟩
        · have hn : x3[i]? = none := List.getElem?_eq_none hn3
          have hn4 : ¬ i < x3.length := by omega
          rw [hn] at hnx
          simp only [usesX] at hnx
          have hM := hf L
          have hno : L ++ freeU (varsV x) = out ++ usesO s0 (x2.take (i + 1)) x3 d6 := by rw [hnx, hL, List.append_assoc]
          have hfl' : (L ++ freeU (varsV x)).length ≤ L.length + (1 + szL (tValue x)) := by rw [List.length_append]; omega
          have hc := fun K => hM K (by omega)
          generalize L ++ freeU (varsV x) = M at *
          obtain ⟨v0, v1, v2, v3⟩ := x
          simp only [tValue, encL_app, encL, encT, List.cons_append, List.nil_append, Md.ow_no, tStrS_len, tValueS_len] at hc ea
          simp -implicitDefEqProofs [hlt, hn3, hn4, ea, encValueS_len]
          intro hm1 hm2
          refine callK_of (hc _) ?_
          simp -implicitDefEqProofs [wi]
          exact ⟨x2.length - (i + 1), by omega, _, St.le_of (by simp) (by simp [St.trunc, look, mapV, mapC, killP]) rfl (by simp [St.trunc, mapC]), (hI _ _).2 ⟨i + 1, M, by omega, rfl, hno, rfl⟩⟩
      · have e : i = x2.length := by omega
        subst e
        rw [List.take_of_length_le (Nat.le_refl _), hr] at hL
        subst hL
        simp -implicitDefEqProofs
  · rw [if_neg h1, if_neg h7, if_neg h8, List.append_nil] at hr
    subst hr
    simp -implicitDefEqProofs
def usesOf (s : DSchema) (v : DValue) (t : DType) (has : Bool) : List DUse := usesV s.types v t has
theorem c_UsesOf (s : DSchema) (v : DValue) (t : DType) (has : Bool) (K) (hs : szL (tValue v) ≤ 1048576) :
    Ct Tryz.prog 69 [.agg (encL .no (tSchema s)), .agg (encL .no (tValue v)), .agg (encL .no (tType t)), .bool has] K (.sl (.of 77) (usesOf s v t has).length (encR .of (tUseS (usesOf s v t has)))) K := c_UsesOf_rec _ s v t has K hs (Nat.lt_succ_self _)
theorem cnUse : ∀ {l : List DUse}, cnR (tUseS l) = l.length * 5 := by
  intro l; induction l with
  | nil => rfl
  | cons x l ih => obtain ⟨x0, ⟨x1, x2⟩, x3, x4⟩ := x; simp [tUseS, tUse, tType, cnR, cnL_app, cnL, cnT, ih]; omega
theorem bnd_UsesOf (s : DSchema) (v : DValue) (t : DType) (has : Bool) (hs : szL (tValue v) ≤ 1048576) : cnR (tUseS (usesOf s v t has)) ≤ 1000000000 := by
  have := usesV_len s.types v t has
  rw [cnUse]; unfold usesOf; omega
end Go.Proofs.YthagllbnkbahnaaGreat.Abs
