/- The field of a type: IsComposite, fieldOf, fieldDef, l18Field. No condition. -/
import Derived.Test.YthagllbnkbahnaaGreatUses
set_option linter.unusedVariables false
set_option linter.unusedSimpArgs false
namespace Go.Proofs.YthagllbnkbahnaaGreat.Abs
open Go
set_option maxHeartbeats 1000000
set_option maxRecDepth 100000
def isComp (ts : List DDef) (n : Bs) : Bool := decide (kindOf ts n = 2) || decide (kindOf ts n = 3) || decide (kindOf ts n = 4)
theorem c_IsComposite (s : DSchema) (n : Bs) (K) : Ct Tryz.prog 65 [.agg (encL .no (tSchema s)), .str n] K (.bool (isComp s.types n)) K := by
  have hl := encL_len (m := .no) (r := tSchema s)
  rw [tSchema_len] at hl
  have hk : (encL .no (tSchema s)).take 3 = encL .no (tSchema s) := List.take_of_length_le (by omega)
  have hc := fun K => c_KindOf s n K
  unfold isComp
  generalize kindOf s.types n = k at *
  refine ct_fn { n0 := 6, ex := [], tk := [8] } Tryz.func65 rfl (by kernel_rfl) (by kernel_rfl) rfl ?_
  simp -implicitDefEqProofs [Tryz.f65, hl, hk]
  refine callK_of (hc _) ?_
  simp -implicitDefEqProofs
theorem c_IsCompositeS (s : DSchema) (n : Bs) (K) : Ct Tryz.prog 96 [.agg (encL .no (tSchema s)), .str n] K (.bool (isComp s.types n)) K := by
  have hl := encL_len (m := .no) (r := tSchema s)
  rw [tSchema_len] at hl
  have hk : (encL .no (tSchema s)).take 3 = encL .no (tSchema s) := List.take_of_length_le (by omega)
  have hc := fun K => c_KindOfS s n K
  unfold isComp
  generalize kindOf s.types n = k at *
  refine ct_fn { n0 := 6, ex := [], tk := [8] } Tryz.func96 rfl (by kernel_rfl) (by kernel_rfl) rfl ?_
  simp -implicitDefEqProofs [Tryz.f96, hl, hk]
  refine callK_of (hc _) ?_
  simp -implicitDefEqProofs
def zField : DFieldDef := ⟨[], [], [], ⟨[], []⟩, []⟩
def fldAt (fs : List DFieldDef) (name : Bs) : Int := idxOf (fun f => decide (f.name = name)) fs 0
def fldIn (fs : List DFieldDef) (name : Bs) : DFieldDef := if fldAt fs name < 0 then zField else fs[(fldAt fs name).toNat]?.getD zField
theorem fldAt_get {xs : List DFieldDef} {name : Bs} (h : 0 ≤ fldAt xs name) : ∃ (i : Nat) (x : DFieldDef), fldAt xs name = i ∧ i < xs.length ∧ xs[i]? = some x ∧ fldIn xs name = x := by
  have h2 : fldAt xs name < xs.length := by
    unfold fldAt at h ⊢
    rcases idxOf_le (p := fun d : DFieldDef => decide (d.name = name)) (xs := xs) (k := 0) (by omega) with h3 | ⟨rfl, h3⟩ <;> omega
  refine ⟨(fldAt xs name).toNat, xs[(fldAt xs name).toNat]'(by omega), by omega, by omega, List.getElem?_eq_getElem (by omega), ?_⟩
  unfold fldIn
  rw [if_neg (by omega), List.getElem?_eq_getElem (by omega)]; rfl
theorem zField_le : (AC.agg [AC.str [], AC.str [], AC.sl Ow.nil 0 [], AC.str [], AC.str [], AC.sl Ow.nil 0 []]).le (AC.agg (encL Md.no (tFieldDef zField))) := by
  refine AC.le_agg ?_
  simp [zField, tFieldDef, tType, encL_app, encL, encT, encR, tInDefS, tDirS]
theorem c_fieldOf1 (x : DFieldDef) (name : Bs) (B : List AC) (F : List (List AC)) (K) : Ct Tryz.prog 111 [.agg (encL .no (tFieldDef x)), .ptr 1 1 0] ([] :: (B :: [.str name] :: F) :: K) (.bool (decide (x.name = name))) ([] :: (B :: [.str name] :: F) :: K) := by
  obtain ⟨a0, a1, a2, ⟨t0, t1⟩, a4⟩ := x
  refine ct_fn { n0 := 4, ex := [], tk := [] } Tryz.func111 rfl (by kernel_rfl) (by kernel_rfl) rfl ?_
  simp -implicitDefEqProofs [Tryz.f111, tFieldDef, tType, encL_app, encL, encT]
theorem c_fieldOf (d : DDef) (name : Bs) (K) : Ct Tryz.prog 67 [.agg (encL .no (tDef d)), .str name] K (.tup [.agg (encL .no (tFieldDef (fldIn d.fields name))), .bool (decide (0 ≤ fldAt d.fields name))]) K := by
  obtain ⟨d0, d1, d2, d3, d4, d5, d6, d7, d8, d9, d10⟩ := d
  dsimp only
  generalize hr : fldIn d5 name = r
  refine ct_fn { n0 := 7, ex := [], tk := [10, 13, 18] } Tryz.func67 rfl (by kernel_rfl) (by kernel_rfl) rfl ?_
  simp -implicitDefEqProofs [Tryz.f67, tDef, encL, encT]
  refine callK_of (c_IndexFuncFieldDef d5 (fun x => decide (x.name = name)) _ _ _ (fun x hx => by simpa using c_fieldOf1 x name _ _ _)) ?_
  have e : idxOf (fun x : DFieldDef => decide (x.name = name)) d5 0 = fldAt d5 name := rfl
  rw [e]
  rcases (by omega : fldAt d5 name < 0 ∨ 0 ≤ fldAt d5 name) with hn | hp
  · have hn' : ¬ 0 ≤ fldAt d5 name := by omega
    unfold fldIn at hr
    rw [if_pos hn] at hr
    subst hr
    simp -implicitDefEqProofs [hn, hn', zField_le]
  · obtain ⟨i, x, ei, hlt, hx, hxi⟩ := fldAt_get hp
    have ea := atFieldDef (m := .no) hx
    rw [hxi] at hr
    subst hr
    rw [ei]
    obtain ⟨a0, a1, a2, ⟨t0, t1⟩, a4⟩ := x
    simp only [tFieldDef, tType, encL_app, encL, encT, List.cons_append, List.nil_append, Md.ow_no] at ea ⊢
    simp -implicitDefEqProofs [hlt, ea, encFieldDefS_len, (by omega : ¬ (i : Int) < 0), (by omega : 0 ≤ (i : Int))]
def tnName : Bs := [95, 95, 116, 121, 112, 101, 110, 97, 109, 101]
def tnField : DFieldDef := ⟨tnName, [], [], ⟨[83, 116, 114, 105, 110, 103], [33]⟩, []⟩
theorem tnField_le : (AC.agg [AC.str tnName, AC.str [], AC.sl Ow.nil 0 [], AC.str [83, 116, 114, 105, 110, 103], AC.str [33], AC.sl Ow.nil 0 []]).le (AC.agg (encL Md.no (tFieldDef tnField))) := by
  refine AC.le_agg ?_
  simp [tnField, tFieldDef, tType, encL_app, encL, encT, encR, tInDefS, tDirS]
def objKind (d : DDef) : Bool := decide (d.kind = 2) || decide (d.kind = 3)
def fldDef (ts : List DDef) (name field : Bs) : DFieldDef := if field = tnName ∧ isComp ts name = true then tnField else if objKind (defOf ts name) then fldIn (defOf ts name).fields field else zField
def fldOk (ts : List DDef) (name field : Bs) : Bool := if field = tnName ∧ isComp ts name = true then true else if objKind (defOf ts name) then decide (0 ≤ fldAt (defOf ts name).fields field) else false
theorem c_fieldDef (s : DSchema) (name field : Bs) (K) : Ct Tryz.prog 30 [.agg (encL .no (tSchema s)), .str name, .str field] K (.tup [.agg (encL .no (tFieldDef (fldDef s.types name field))), .bool (fldOk s.types name field)]) K := by
  have hl := encL_len (m := .no) (r := tSchema s)
  rw [tSchema_len] at hl
  have hk : (encL .no (tSchema s)).take 3 = encL .no (tSchema s) := List.take_of_length_le (by omega)
  have hcc := fun K => c_IsComposite s name K
  have htd := fun K => c_typeDef s name K
  have hfo := fun K => c_fieldOf (defOf s.types name) field K
  generalize hr : fldDef s.types name field = r
  generalize hq : fldOk s.types name field = q
  unfold fldDef at hr
  unfold fldOk at hq
  generalize isComp s.types name = c at *
  generalize defOf s.types name = d at *
  generalize decide (0 ≤ defAt s.types name) = b0 at *
  refine ct_fn { n0 := 10, ex := [], tk := [15, 17, 18, 22, 33] } Tryz.func30 rfl (by kernel_rfl) (by kernel_rfl) rfl ?_
  simp -implicitDefEqProofs [Tryz.f30, hl, hk]
  refine callK_still (fun _ => hcc _) ?_
  simp -implicitDefEqProofs [hl, hk]
  refine ⟨fun h1 h2 => ?_, fun h1 => ?_⟩
  · rw [if_pos ⟨h1, h2⟩] at hr hq
    subst hr
    subst hq
    exact ⟨tnField_le, rfl⟩
  · rw [if_neg (fun h => by have := h1 h.1; rw [h.2] at this; cases this)] at hr hq
    refine callK_of (htd _) ?_
    have hld := encL_len (m := .no) (r := tDef d)
    rw [tDef_len] at hld
    have hkd : (encL .no (tDef d)).take 11 = encL .no (tDef d) := List.take_of_length_le (by omega)
    obtain ⟨d0, d1, d2, d3, d4, d5, d6, d7, d8, d9, d10⟩ := d
    dsimp only at hr hq hfo
    simp only [tDef, encL, encT, Md.ow_no, tStrS_len, tFieldDefS_len, tInDefS_len, tEnumDefS_len, tRootS_len, tDirS_len] at hfo ⊢
    simp -implicitDefEqProofs
    refine ⟨fun a b => ?_, fun h => ?_⟩
    · rw [if_neg (by simp [objKind, a, b])] at hr hq
      subst hr
      subst hq
      exact ⟨zField_le, rfl⟩
    · have ho : objKind ⟨d0, d1, d2, d3, d4, d5, d6, d7, d8, d9, d10⟩ = true := by
        simp only [objKind, Bool.or_eq_true, decide_eq_true_eq]
        by_cases h2 : d0 = 2
        · exact .inl h2
        · exact .inr (h h2)
      rw [if_pos ho] at hr hq
      subst hq
      refine callK_of (hfo _) ?_
      generalize fldIn d5 field = x at *
      subst hr
      obtain ⟨a0, a1, a2, ⟨t0, t1⟩, a4⟩ := x
      simp only [tFieldDef, tType, encL_app, encL, encT, List.cons_append, List.nil_append, Md.ow_no]
      simp -implicitDefEqProofs
theorem c_l18Field (s : DSchema) (name field : Bs) (K) : Ct Tryz.prog 58 [.agg (encL .no (tSchema s)), .str name, .str field] K (.tup [.agg (encL .no (tFieldDef (fldDef s.types name field))), .bool (fldOk s.types name field)]) K := by
  have hcc := fun K => c_IsCompositeS s name K
  have hta := fun K => c_TypeAtS s name K
  generalize hr : fldDef s.types name field = r
  generalize hq : fldOk s.types name field = q
  unfold fldDef at hr
  unfold fldOk at hq
  obtain ⟨s0, s1, s2⟩ := s
  dsimp only at hr hq hcc hta
  generalize isComp s0 name = c at *
  simp only [tSchema, encL_app, encL, encT, List.cons_append, List.nil_append, Md.ow_no, tDefS_len, tRootS_len] at hcc hta
  refine ct_fn { n0 := 11, ex := [], tk := [16, 19, 20, 23, 44, 67, 68] } Tryz.func58 rfl (by kernel_rfl) (by kernel_rfl) rfl ?_
  simp -implicitDefEqProofs [Tryz.f58, tSchema, encL, encT]
  refine callK_still (fun _ => hcc _) ?_
  simp -implicitDefEqProofs
  refine ⟨fun h1 h2 => ?_, fun h1 => ?_⟩
  · rw [if_pos ⟨h1, h2⟩] at hr hq
    subst hr
    subst hq
    subst h1
    exact ⟨tnField_le, rfl⟩
  · rw [if_neg (fun h => by have := h1 h.1; rw [h.2] at this; cases this)] at hr hq
    refine callK_of (hta _) ?_
    rcases (by omega : defAt s0 name < 0 ∨ ¬ defAt s0 name < 0) with hn | hp
    · have e : defOf s0 name = zDef := by unfold defOf; rw [if_pos hn]
      rw [e, if_neg (by simp [objKind, zDef])] at hr hq
      subst hr
      subst hq
      have e0 : (defAt s0 name).toNat = 0 := by omega
      have hn2 : ¬ 0 ≤ defAt s0 name := by omega
      generalize defAt s0 name = at0 at *
      cases s0 with
      | nil => simp -implicitDefEqProofs [hn, hn2, e0, zField_le, tDefS, encR]
      | cons d ds =>
        obtain ⟨d0, d1, d2, d3, d4, d5, d6, d7, d8, d9, d10⟩ := d
        have hle : (encR .no (tDefS ds)).length = ds.length * 11 := by rw [encDefS_len]
        have hle2 : ds.length * 11 + 11 = (ds.length + 1) * 11 := by omega
        simp -implicitDefEqProofs [hn, hn2, e0, zField_le, tDefS, encR, tDef, encL, encT, hle, hle2]
    · obtain ⟨j, d, ej, hjl, hd, hde⟩ := defAt_get hp
      have ead := atDef (m := .no) hd
      rw [hde] at hr hq
      rw [ej]
      obtain ⟨d0, d1, d2, d3, d4, d5, d6, d7, d8, d9, d10⟩ := d
      dsimp only at hr hq
      simp only [tDef, encL, encT, List.cons_append, List.nil_append, Md.ow_no, tFieldDefS_len] at ead
      simp -implicitDefEqProofs [hjl, ead, encDefS_len, (by omega : ¬ (j : Int) < 0), (by omega : 0 ≤ (j : Int))]
      refine ⟨fun h => ?_, fun h => ?_⟩
      · have ho : objKind ⟨d0, d1, d2, d3, d4, d5, d6, d7, d8, d9, d10⟩ = false := by
          rcases h with h | h
          · omega
          · simp [objKind, h.1, h.2]
        rw [if_neg (by simp [ho])] at hr hq
        subst hr
        subst hq
        exact ⟨zField_le, rfl⟩
      · have ho : objKind ⟨d0, d1, d2, d3, d4, d5, d6, d7, d8, d9, d10⟩ = true := by
          simp only [objKind, Bool.or_eq_true, decide_eq_true_eq]
          by_cases h2 : d0 = 2
          · exact .inl h2
          · exact .inr (h h2)
        rw [if_pos ho] at hr hq
        obtain ⟨I, hI⟩ : ∃ I : Nat → St → Prop, ∀ m s, I m s ↔ ∃ (i : Nat), i ≤ d5.length ∧ m = d5.length - i ∧ idxOf (fun f : DFieldDef => decide (f.name = field)) (d5.drop i) i = fldAt d5 field ∧
          s = { env := [(0, .agg [.sl .no s0.length (encR .no (tDefS s0)), .sl .no s1.length (encR .no (tDefS s1)), .sl .no s2.length (encR .no (tRootS s2))]), (1, .str name), (2, .str field), (3, .ptr 0 0 0), (6, .ptr 0 1 0), (7, .bool false), (8, .int .i64 j), (9, .sl .no d5.length (encR .no (tFieldDefS d5))), (10, .int .i64 i)], loc := [],
                K := [[.sl .no s0.length (encR .no (tDefS s0)), .sl .no s1.length (encR .no (tDefS s1)), .sl .no s2.length (encR .no (tRootS s2))], [.str [], .str [], .sl .nil 0 [], .str [], .str [], .sl .nil 0 []]] :: K } := ⟨_, fun _ _ => Iff.rfl⟩
        refine wC_loopI I d5.length ((hI _ _).2 ⟨0, by omega, rfl, rfl, rfl⟩) (St.le_of (by simp) (by simp) rfl rfl) ?_
        intro m s hm
        obtain ⟨i, hi, rfl, hz, rfl⟩ := (hI _ _).1 hm
        rcases Nat.lt_or_ge i d5.length with hlt | hge
        · obtain ⟨x, hx⟩ : ∃ x, d5[i]? = some x := ⟨_, List.getElem?_eq_getElem hlt⟩
          have ea := atFieldDef (m := .no) hx
          have ed := idxOf_drop (p := fun d : DFieldDef => decide (d.name = field)) hx i
          rw [hz] at ed
          have hrx : x.name = field → r = x ∧ q = true := by
            intro hxn
            rw [if_pos (by simp [hxn])] at ed
            rw [ed] at hq
            have h0 : 0 ≤ fldAt d5 field := by omega
            obtain ⟨i2, x2, e2, _, hx2, hf2⟩ := fldAt_get h0
            have : i2 = i := by omega
            subst this
            rw [hx] at hx2
            cases hx2
            exact ⟨by rw [← hr, hf2], by rw [← hq]; simp⟩
          obtain ⟨a0, a1, a2, ⟨t0, t1⟩, a4⟩ := x
          simp only [tFieldDef, tType, encL_app, encL, encT, List.cons_append, List.nil_append, Md.ow_no] at ea
          simp -implicitDefEqProofs [hlt, ea, encFieldDefS_len]
          intro hm1
          unfold maxLen at hm1
          refine ⟨fun h => ?_, fun h => ?_⟩
          · obtain ⟨e1, e2⟩ := hrx h
            rw [e1, e2]
            simp [tFieldDef, tType, encL, encT]
          · simp (disch := omega) only [wrap64]
            refine ⟨d5.length - (i + 1), by omega, _, St.le_of (by simp) (by simp [St.trunc, look, mapV, mapC, killP]) rfl (by simp [St.trunc, mapC]), (hI _ _).2 ⟨i + 1, by omega, rfl, ?_, rfl⟩⟩
            rw [ed]; simp [h]
        · have e : i = d5.length := by omega
          subst e
          rw [List.drop_of_length_le (Nat.le_refl _)] at hz
          simp only [idxOf] at hz
          have hn : fldAt d5 field < 0 := by omega
          have : fldIn d5 field = zField := by unfold fldIn; rw [if_pos hn]
          rw [this] at hr
          rw [decide_eq_false (by omega)] at hq
          subst hr
          subst hq
          simp -implicitDefEqProofs [zField_le]
end Go.Proofs.YthagllbnkbahnaaGreat.Abs
