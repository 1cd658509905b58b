/- The variables in a value: the program's and the reference's. No condition. -/
import Derived.Test.YthagllbnkbahnaaGreatStrs
set_option linter.unusedVariables false
set_option linter.unusedSimpArgs false
namespace Go.Proofs.YthagllbnkbahnaaGreat.Abs
open Go
set_option maxHeartbeats 1000000
set_option maxRecDepth 100000
/-- Names put behind others, each once. -/
def addN (out ns : List Bs) : List Bs := putN (fun _ => true) out ns
mutual
def varsV : DValue → List Bs
  | ⟨k, t, items, _⟩ => if k = 1 then [t] else varsS [] items
def varsS : List Bs → List DValue → List Bs
  | out, [] => out
  | out, x :: xs => varsS (addN out (varsV x)) xs
end
theorem addN_app {out a b : List Bs} : addN out (a ++ b) = addN (addN out a) b := putN_app
theorem addN_take {out ns : List Bs} {i : Nat} {n : Bs} (h : ns[i]? = some n) : addN out (ns.take (i + 1)) = if n ∉ addN out (ns.take i) then addN out (ns.take i) ++ [n] else addN out (ns.take i) := by
  unfold addN; rw [putN_take h]; simp
theorem addN_one {out : List Bs} {n : Bs} : addN out [n] = if n ∉ out then out ++ [n] else out := by simp [addN, putN]
theorem addN_len : ∀ {ns out : List Bs}, (addN out ns).length ≤ out.length + ns.length := by
  intro ns; induction ns with
  | nil => intro out; simp [addN, putN]
  | cons n ns ih =>
    intro out
    have := ih (out := if n ∉ out then out ++ [n] else out)
    rw [show n :: ns = [n] ++ ns from rfl, addN_app, addN_one]
    simp only [List.length_append, List.length_singleton]
    split at this
    · rename_i h; rw [if_pos h]; simp at this; omega
    · rename_i h; rw [if_neg h]; omega
theorem mem_addN {x : Bs} : ∀ {ns out : List Bs}, x ∈ addN out ns ↔ x ∈ out ∨ x ∈ ns := by
  intro ns; induction ns with
  | nil => intro out; simp [addN, putN]
  | cons n ns ih =>
    intro out
    rw [show n :: ns = [n] ++ ns from rfl, addN_app, ih, addN_one]
    split
    · simp [or_assoc]
    · rename_i h; simp at h; simp; constructor
      · rintro (h1 | h1)
        · exact .inl h1
        · exact .inr (.inr h1)
      · rintro (h1 | rfl | h1)
        · exact .inl h1
        · exact .inl h
        · exact .inr h1
theorem addN_assoc : ∀ {ns acc out : List Bs}, addN (addN out acc) ns = addN out (addN acc ns) := by
  intro ns; induction ns with
  | nil => intro acc out; simp [addN, putN]
  | cons n ns ih =>
    intro acc out
    rw [show n :: ns = [n] ++ ns from rfl, addN_app, addN_app, ← ih]
    refine congrArg (fun z => addN z ns) ?_
    rw [addN_one, addN_one]
    by_cases h1 : n ∈ acc
    · rw [if_neg (by simp [mem_addN, h1]), if_neg (by simp [h1])]
    · by_cases h2 : n ∈ out
      · rw [if_neg (by simp [mem_addN, h2]), if_pos h1, addN_app, addN_one, if_neg (by simp [mem_addN, h2])]
      · rw [if_pos (by simp [mem_addN, h1, h2]), if_pos h1, addN_app, addN_one, if_pos (by simp [mem_addN, h1, h2])]
theorem varsS_app : ∀ {a b : List DValue} {out : List Bs}, varsS out (a ++ b) = varsS (varsS out a) b := by
  intro a; induction a with
  | nil => intro b out; simp [varsS]
  | cons x a ih => intro b out; simp [varsS, ih]
theorem varsS_take {xs : List DValue} {i : Nat} {x : DValue} {out : List Bs} (h : xs[i]? = some x) : varsS out (xs.take (i + 1)) = addN (varsS out (xs.take i)) (varsV x) := by
  rw [List.take_add_one, h, varsS_app]; simp [varsS]
mutual
theorem varsV_len : ∀ v : DValue, (varsV v).length ≤ 1 + szL (tValue v)
  | ⟨k, t, items, ns⟩ => by
    have := varsS_len items []
    simp only [varsV, tValue, szL, szT, tValueS_len, tStrS_len]
    split
    · simp
    · simp at this; omega
theorem varsS_len : ∀ (xs : List DValue) (out : List Bs), (varsS out xs).length ≤ out.length + (xs.length + szR (tValueS xs))
  | [], out => by simp [varsS]
  | x :: xs, out => by
    have h1 := varsV_len x
    have h2 := varsS_len xs (addN out (varsV x))
    have h3 := addN_len (out := out) (ns := varsV x)
    simp only [varsS, tValueS, szR, List.length_cons]; omega
end
theorem encStr_app {m : Md} {a : List Bs} {x : Bs} : encR m (tStrS (a ++ [x])) = encR m (tStrS a) ++ [.str x] := by simp [encStr']
theorem c_VarsIn_rec : ∀ N : Nat, ∀ (v : DValue) (K : List (List (List AC))) (hs : szL (tValue v) ≤ 1048576) (hN : SizeOf.sizeOf v < N),
    Ct Tryz.prog 114 [.agg (encL .no (tValue v))] K (.sl (.of 9) (varsV v).length (encR .of (tStrS (varsV v)))) K := by
  intro N
  induction N with
  | zero => intros; omega
  | succ N ih =>
  intro v K hs hN
  have hvl := varsV_len v
  generalize hr : varsV v = r at *
  obtain ⟨x0, x1, x2, x3⟩ := v
  simp only [varsV] at hr
  simp only [tValue, szL, szT, tValueS_len, tStrS_len] at hs
  refine ct_fn { n0 := 8, ex := [16, 17, 18, 23, 24, 25], tk := [13, 14, 31, 33, 35, 36, 39] } Tryz.func114 rfl (by kernel_rfl) (by kernel_rfl) rfl ?_
  simp -implicitDefEqProofs [Tryz.f114, tValue, encL_app, encL, encT]
  refine ⟨fun h1 => ?_, fun h1 => ?_⟩
  · rw [if_pos h1] at hr
    subst hr
    simp [tStrS, encR, encL, encT]
  · rw [if_neg h1] at hr
    intro hm0
    obtain ⟨I, hI⟩ : ∃ I : Nat → St → Prop, ∀ m s, I m s ↔ ∃ (i : Nat) (out : List Bs), i ≤ x2.length ∧ m = x2.length - i ∧ out = varsS [] (x2.take i) ∧
      s = { env := [(0, .agg [.int .i64 x0, .str x1, .sl .no x2.length (encR .no (tValueS x2)), .sl .no x3.length (encR .no (tStrS x3))]), (1, .ptr 0 0 0), (2, .sl .nil 0 []), (3, .sl (.of 9) out.length (encR .of (tStrS out))), (16, .sl .no x2.length (encR .no (tValueS x2))), (17, .int .i64 x2.length), (18, .int .i64 i)], loc := [],
            K := [[.int .i64 x0, .str x1, .sl .no x2.length (encR .no (tValueS x2)), .sl .no x3.length (encR .no (tStrS x3))]] :: K } := ⟨_, fun _ _ => Iff.rfl⟩
    refine wC_loopI I x2.length ((hI _ _).2 ⟨0, [], by omega, rfl, rfl, rfl⟩) (St.le_of (by simp) (by simp [tStrS, encR]) rfl rfl) ?_
    intro m s hm
    obtain ⟨i, out, hi, rfl, ho, rfl⟩ := (hI _ _).1 hm
    have hol := varsS_len (x2.take i) []
    rw [← ho] at hol
    have htl := szR_take_le (rs := tValueS x2) i
    rw [tValueS_take] at htl
    simp only [List.length_nil, List.length_take] at hol
    rcases Nat.lt_or_ge i x2.length with hlt | hge
    · obtain ⟨x, hx⟩ : ∃ x, x2[i]? = some x := ⟨_, List.getElem?_eq_getElem hlt⟩
      have ea := atValue (m := .no) hx
      have es := szR_get (tValueS_get hx)
      have el := szR_take_le (rs := tValueS x2) (i + 1)
      have hnx := varsS_take (out := []) hx
      rw [← ho] at hnx
      have hxl := varsV_len x
      have hc := fun K => ih x K (by omega) (by have := List.sizeOf_lt_of_mem (List.mem_of_getElem? hx); simp at hN; omega)
      generalize varsV x = ns at *
      have wi : IntKind.i64.wrap ((i : Int) + 1) = (i + 1 : Nat) := by rw [wrap64 (by omega) (by omega)]; rfl
      obtain ⟨v0, v1, v2, v3⟩ := x
      simp only [tValue, encL_app, encL, encT, List.cons_append, List.nil_append, Md.ow_no, tStrS_len, tValueS_len] at hc ea
      simp -implicitDefEqProofs [hlt, ea, encValueS_len]
      refine callK_of (hc _) ?_
      simp -implicitDefEqProofs
      intro hm1
      obtain ⟨J, hJ⟩ : ∃ I : Nat → St → Prop, ∀ m s, I m s ↔ ∃ (j : Nat) (o2 : List Bs), j ≤ ns.length ∧ m = ns.length - j ∧ o2 = addN out (ns.take j) ∧
        s = { env := [(0, .agg [.int .i64 x0, .str x1, .sl .no x2.length (encR .no (tValueS x2)), .sl .no x3.length (encR .no (tStrS x3))]), (1, .ptr 0 0 0), (2, .sl .nil 0 []), (3, .sl (.of 9) o2.length (encR .of (tStrS o2))), (16, .sl .no x2.length (encR .no (tValueS x2))), (17, .int .i64 x2.length), (18, .int .i64 i), (5, .ptr 0 1 0), (23, .sl (.of 9) ns.length (encR .of (tStrS ns))), (24, .int .i64 ns.length), (25, .int .i64 j)], loc := [],
              K := [[.int .i64 x0, .str x1, .sl .no x2.length (encR .no (tValueS x2)), .sl .no x3.length (encR .no (tStrS x3))], [.int .i64 v0, .str v1, .sl .no v2.length (encR .no (tValueS v2)), .sl .no v3.length (encR .no (tStrS v3))]] :: K } := ⟨_, fun _ _ => Iff.rfl⟩
      refine wC_loopI J ns.length ((hJ _ _).2 ⟨0, out, by omega, rfl, rfl, rfl⟩) (St.le_of (by simp) (by simp) rfl rfl) ?_
      intro m s hm2
      obtain ⟨j, o2, hj, rfl, ho2, rfl⟩ := (hJ _ _).1 hm2
      have hol2 := addN_len (out := out) (ns := ns.take j)
      rw [← ho2, List.length_take, Nat.min_eq_left hj] at hol2
      rcases Nat.lt_or_ge j ns.length with hlt2 | hge2
      · obtain ⟨y, hy⟩ : ∃ y, ns[j]? = some y := ⟨_, List.getElem?_eq_getElem hlt2⟩
        have ey := atStr (m := .of) hy
        simp only [Nat.mul_one, encL, encT] at ey
        have hny := addN_take (out := out) hy
        rw [← ho2] at hny
        have wj : IntKind.i64.wrap ((j : Int) + 1) = (j + 1 : Nat) := by rw [wrap64 (by omega) (by omega)]; rfl
        simp -implicitDefEqProofs [hlt2, encStrS_len, ey]
        refine callK_of (c_ContainsStr o2 y _) ?_
        simp -implicitDefEqProofs [wj, encStrS_len]
        refine ⟨fun h3 => ⟨by unfold maxLen; omega, by omega, ?_⟩, fun h3 => ?_⟩
        · rw [if_pos h3] at hny
          rw [← encStr_app]
          exact ⟨ns.length - (j + 1), by omega, _, St.le_of (by simp) (by simp [St.trunc, look, mapV, mapC, killP]) rfl (by simp [St.trunc, mapC]), (hJ _ _).2 ⟨j + 1, o2 ++ [y], by omega, rfl, hny.symm, rfl⟩⟩
        · rw [if_neg (by simp [h3])] at hny
          exact ⟨ns.length - (j + 1), by omega, _, St.le_of (by simp) (by simp [St.trunc, look, mapV, mapC, killP]) rfl (by simp [St.trunc, mapC]), (hJ _ _).2 ⟨j + 1, o2, by omega, rfl, hny.symm, rfl⟩⟩
      · have e : j = ns.length := by omega
        subst e
        rw [List.take_of_length_le (Nat.le_refl _), ← hnx] at ho2
        simp -implicitDefEqProofs [wi]
        exact ⟨x2.length - (i + 1), by omega, _, St.le_of (by simp) (by simp [St.trunc, look, mapV, mapC, killP]) rfl (by simp [St.trunc, mapC]), (hI _ _).2 ⟨i + 1, o2, by omega, rfl, ho2, rfl⟩⟩
    · have e : i = x2.length := by omega
      subst e
      rw [List.take_of_length_le (Nat.le_refl _), hr] at ho
      subst ho
      simp -implicitDefEqProofs
theorem c_VarsIn (v : DValue) (K) (hs : szL (tValue v) ≤ 1048576) : Ct Tryz.prog 114 [.agg (encL .no (tValue v))] K (.sl (.of 9) (varsV v).length (encR .of (tStrS (varsV v)))) K := c_VarsIn_rec _ v K hs (Nat.lt_succ_self _)
theorem c_l07Vars : ∀ N : Nat, ∀ (v : DValue) (out : List Bs) (K : List (List (List AC))) (hb : out.length + szL (tValue v) ≤ 100000000) (hN : SizeOf.sizeOf v < N),
    Ct Tryz.prog 152 [.agg (encL .no (tValue v)), .sl (.of 9) out.length (encR .of (tStrS out))] K (.sl (.of 9) (addN out (varsV v)).length (encR .of (tStrS (addN out (varsV v))))) K := by
  intro N
  induction N with
  | zero => intros; omega
  | succ N ih =>
  intro v out K hs hN
  generalize hr : addN out (varsV v) = r at *
  obtain ⟨x0, x1, x2, x3⟩ := v
  simp only [varsV] at hr
  simp only [tValue, szL, szT, tValueS_len, tStrS_len] at hs
  refine ct_fn { n0 := 7, ex := [], tk := [23, 24, 27, 28, 41, 42, 43] } Tryz.func152 rfl (by kernel_rfl) (by kernel_rfl) rfl ?_
  simp -implicitDefEqProofs [Tryz.f152, tValue, encL_app, encL, encT]
  refine ⟨fun h1 => ?_, fun h1 => ?_⟩
  · rw [if_pos h1, addN_one] at hr
    obtain ⟨I, hI⟩ : ∃ I : Nat → St → Prop, ∀ m s, I m s ↔ ∃ (i : Nat), i ≤ out.length ∧ m = out.length - i ∧ x1 ∉ out.take i ∧
      s = { env := [(0, .agg [.int .i64 x0, .str x1, .sl .no x2.length (encR .no (tValueS x2)), .sl .no x3.length (encR .no (tStrS x3))]), (1, .sl (.of 9) out.length (encR .of (tStrS out))), (2, .ptr 0 0 0), (4, .sl .nil 0 []), (5, .int .i64 i)], loc := [],
            K := [[.int .i64 x0, .str x1, .sl .no x2.length (encR .no (tValueS x2)), .sl .no x3.length (encR .no (tStrS x3))]] :: K } := ⟨_, fun _ _ => Iff.rfl⟩
    refine wC_loopI I out.length ((hI _ _).2 ⟨0, by omega, rfl, by simp, rfl⟩) (St.le_of (by simp) (by simp) rfl rfl) ?_
    intro m s hm
    obtain ⟨i, hi, rfl, hz, rfl⟩ := (hI _ _).1 hm
    rcases Nat.lt_or_ge i out.length with hlt | hge
    · obtain ⟨y, hy⟩ : ∃ y, out[i]? = some y := ⟨_, List.getElem?_eq_getElem hlt⟩
      have ey := atStr (m := .no) hy
      simp only [Nat.mul_one, encL, encT] at ey
      have wi : IntKind.i64.wrap ((i : Int) + 1) = (i + 1 : Nat) := by rw [wrap64 (by omega) (by omega)]; rfl
      simp -implicitDefEqProofs [hlt, encStrS_len, ey]
      intro hm1
      refine wRun_draw true rfl (by decide +kernel) ?_
      simp -implicitDefEqProofs [hlt, encStrS_len, ey, wi]
      refine ⟨fun h3 => ?_, fun h3 => ?_⟩
      · rw [if_neg (by subst h3; simp [List.mem_of_getElem? hy])] at hr
        subst hr
        simp
      · refine ⟨out.length - (i + 1), by omega, _, St.le_of (by simp) (by simp [St.trunc, look, mapV, mapC, killP]) rfl (by simp [St.trunc, mapC]), (hI _ _).2 ⟨i + 1, by omega, rfl, ?_, rfl⟩⟩
        rw [List.take_add_one, hy]; simp [hz]; exact fun e => h3 e.symm
    · have e : i = out.length := by omega
      subst e
      rw [List.take_of_length_le (Nat.le_refl _)] at hz
      rw [if_pos hz] at hr
      subst hr
      simp -implicitDefEqProofs [encStrS_len]
      intro hm1
      refine ⟨by unfold maxLen; omega, by omega, ?_⟩
      rw [← encStr_app]
      simp
  · rw [if_neg h1] at hr
    obtain ⟨I, hI⟩ : ∃ I : Nat → St → Prop, ∀ m s, I m s ↔ ∃ (i : Nat) (o2 : List Bs), i ≤ x2.length ∧ m = x2.length - i ∧ o2 = addN out (varsS [] (x2.take i)) ∧
      s = { env := [(0, .agg [.int .i64 x0, .str x1, .sl .no x2.length (encR .no (tValueS x2)), .sl .no x3.length (encR .no (tStrS x3))]), (1, .sl (.of 9) o2.length (encR .of (tStrS o2))), (2, .ptr 0 0 0), (4, .sl .nil 0 []), (6, .int .i64 i)], loc := [],
            K := [[.int .i64 x0, .str x1, .sl .no x2.length (encR .no (tValueS x2)), .sl .no x3.length (encR .no (tStrS x3))]] :: K } := ⟨_, fun _ _ => Iff.rfl⟩
    refine wC_loopI I x2.length ((hI _ _).2 ⟨0, out, by omega, rfl, by simp [varsS, addN, putN], rfl⟩) (St.le_of (by simp) (by simp) rfl rfl) ?_
    intro m s hm
    obtain ⟨i, o2, hi, rfl, ho, rfl⟩ := (hI _ _).1 hm
    have hol := varsS_len (x2.take i) []
    have hol2 := addN_len (out := out) (ns := varsS [] (x2.take i))
    rw [← ho] at hol2
    have htl := szR_take_le (rs := tValueS x2) i
    rw [tValueS_take] at htl
    simp only [List.length_nil, List.length_take] at hol
    rcases Nat.lt_or_ge i x2.length with hlt | hge
    · obtain ⟨x, hx⟩ : ∃ x, x2[i]? = some x := ⟨_, List.getElem?_eq_getElem hlt⟩
      have ea := atValue (m := .no) hx
      have es := szR_get (tValueS_get hx)
      have el := szR_take_le (rs := tValueS x2) (i + 1)
      have hnx := varsS_take (out := []) hx
      rw [tValueS_take] at es el
      rw [tValueS_take] at es
      rw [Nat.min_eq_left hi] at hol
      have hc := fun K => ih x o2 K (by omega) (by have := List.sizeOf_lt_of_mem (List.mem_of_getElem? hx); simp at hN; omega)
      have hno : addN o2 (varsV x) = addN out (varsS [] (x2.take (i + 1))) := by rw [hnx, ho, addN_assoc]
      generalize addN o2 (varsV x) = ns at *
      have wi : IntKind.i64.wrap ((i : Int) + 1) = (i + 1 : Nat) := by rw [wrap64 (by omega) (by omega)]; rfl
      obtain ⟨v0, v1, v2, v3⟩ := x
      simp only [tValue, encL_app, encL, encT, List.cons_append, List.nil_append, Md.ow_no, tStrS_len, tValueS_len] at hc ea
      simp -implicitDefEqProofs [hlt, ea, encValueS_len]
      intro hm1
      refine callK_of (hc _) ?_
      simp -implicitDefEqProofs [wi]
      exact ⟨x2.length - (i + 1), by omega, _, St.le_of (by simp) (by simp [St.trunc, look, mapV, mapC, killP]) rfl (by simp [St.trunc, mapC]), (hI _ _).2 ⟨i + 1, ns, by omega, rfl, hno, rfl⟩⟩
    · have e : i = x2.length := by omega
      subst e
      rw [List.take_of_length_le (Nat.le_refl _), hr] at ho
      subst ho
      simp -implicitDefEqProofs
theorem c_VarsInS (v : DValue) (K) (hs : szL (tValue v) ≤ 1048576) : Ct Tryz.prog 129 [.agg (encL .no (tValue v))] K (.sl (.of 9) (varsV v).length (encR .of (tStrS (varsV v)))) K := by
  have hc := fun K => c_l07Vars _ v [] K (by simp; omega) (Nat.lt_succ_self _)
  have e : addN [] (varsV v) = varsV v := by
    obtain ⟨x0, x1, x2, x3⟩ := v
    simp only [varsV]
    split
    · simp [addN_one]
    · have : ∀ (xs : List DValue) (o : List Bs), addN [] o = o → addN [] (varsS o xs) = varsS o xs := by
        intro xs; induction xs with
        | nil => intro o h; simpa [varsS] using h
        | cons x xs ih => intro o h; simp only [varsS]; exact ih _ (by rw [← addN_assoc, h])
      exact this _ _ (by simp [addN, putN])
  simp only [e, List.length_nil, tStrS, encR] at hc
  have hl := encL_len (m := .no) (r := tValue v)
  rw [tValue_len] at hl
  have hk : (encL .no (tValue v)).take 4 = encL .no (tValue v) := List.take_of_length_le (by omega)
  generalize varsV v = r at *
  refine ct_fn { n0 := 3, ex := [], tk := [4, 5] } Tryz.func129 rfl (by kernel_rfl) (by kernel_rfl) rfl ?_
  simp -implicitDefEqProofs [Tryz.f129, hl, hk]
  refine callK_of (hc _) ?_
  simp -implicitDefEqProofs
end Go.Proofs.YthagllbnkbahnaaGreat.Abs
