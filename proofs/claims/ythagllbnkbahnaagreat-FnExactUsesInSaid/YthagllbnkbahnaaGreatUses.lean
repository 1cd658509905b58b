/- Where variables stand in a value: freeUses, Inner, inNamed. No condition. -/
import Derived.Test.YthagllbnkbahnaaGreatVars
import Derived.Test.YthagllbnkbahnaaGreatKinds
import Derived.Test.YthagllbnkbahnaaGreatMayUse
set_option linter.unusedVariables false
set_option linter.unusedSimpArgs false
namespace Go.Proofs.YthagllbnkbahnaaGreat.Abs
open Go
set_option maxHeartbeats 1000000
set_option maxRecDepth 100000
theorem snocUse {m : Md} {xs : List DUse} {x : DUse} : encR m (tUseS (xs ++ [x])) = encR m (tUseS xs) ++ encL m (tUse x) := by
  rw [tUseS_app, encR_app]; simp [tUseS, encR]
theorem encUse {xs : List DUse} : encR .no (tUseS xs) = encR .of (tUseS xs) := by
  induction xs with
  | nil => rfl
  | cons x xs ih => obtain ⟨a, ⟨b, c⟩, d, e⟩ := x; simp [tUseS, tUse, tType, encR, encL_app, encL, encT, ih]
def freeU (ns : List Bs) : List DUse := ns.map fun n => ⟨n, ⟨[], []⟩, false, true⟩
theorem freeU_take {ns : List Bs} {i : Nat} {n : Bs} (h : ns[i]? = some n) : freeU (ns.take (i + 1)) = freeU (ns.take i) ++ [⟨n, ⟨[], []⟩, false, true⟩] := by
  unfold freeU; rw [List.take_add_one, h]; simp
theorem freeU_len {ns : List Bs} : (freeU ns).length = ns.length := by simp [freeU]
theorem c_freeUses (v : DValue) (K) (hs : szL (tValue v) ≤ 1048576) : Ct Tryz.prog 70 [.agg (encL .no (tValue v))] K (.sl (.of 77) (freeU (varsV v)).length (encR .of (tUseS (freeU (varsV v))))) K := by
  have hvl := varsV_len v
  have hc := fun K => c_VarsIn v K hs
  have hl := encL_len (m := .no) (r := tValue v)
  rw [tValue_len] at hl
  have hk : (encL .no (tValue v)).take 4 = encL .no (tValue v) := List.take_of_length_le (by omega)
  generalize varsV v = ns at *
  generalize hr : freeU ns = r
  refine ct_fn { n0 := 6, ex := [8, 9, 10], tk := [6, 14, 16, 17, 18, 20] } Tryz.func70 rfl (by kernel_rfl) (by kernel_rfl) rfl ?_
  simp -implicitDefEqProofs [Tryz.f70, hl, hk]
  refine callK_of (hc _) ?_
  simp -implicitDefEqProofs
  intro hm0
  obtain ⟨I, hI⟩ : ∃ I : Nat → St → Prop, ∀ m s, I m s ↔ ∃ (i : Nat) (L : List DUse), i ≤ ns.length ∧ m = ns.length - i ∧ L = freeU (ns.take i) ∧
    s = { env := [(0, .agg (encL .no (tValue v))), (1, .ptr 0 0 0), (2, .sl .nil 0 []), (3, .sl (.of 77) L.length (encR .of (tUseS L))), (8, .sl (.of 9) ns.length (encR .of (tStrS ns))), (9, .int .i64 ns.length), (10, .int .i64 i)], loc := [],
          K := [encL .no (tValue v)] :: K } := ⟨_, fun _ _ => Iff.rfl⟩
  refine wC_loopI I ns.length ((hI _ _).2 ⟨0, [], by omega, rfl, rfl, rfl⟩) (St.le_of (by simp) (by simp [tUseS, encR]) rfl rfl) ?_
  intro m s hm
  obtain ⟨i, L, hi, rfl, hL, rfl⟩ := (hI _ _).1 hm
  have hll : L.length = i := by rw [hL, freeU_len, List.length_take]; omega
  have hlc : (encR .of (tUseS L)).length = L.length * 5 := by rw [encUseS_len]
  rcases Nat.lt_or_ge i ns.length with hlt | hge
  · obtain ⟨y, hy⟩ : ∃ y, ns[i]? = some y := ⟨_, List.getElem?_eq_getElem hlt⟩
    have ey := atStr (m := .of) hy
    simp only [Nat.mul_one, encL, encT] at ey
    have hnx := freeU_take hy
    rw [← hL] at hnx
    have hn := snocUse (m := .of) (xs := L) (x := ⟨y, ⟨[], []⟩, false, true⟩)
    simp only [tUse, tType, encL_app, encL, encT, List.cons_append, List.nil_append] at hn
    have wi : IntKind.i64.wrap ((i : Int) + 1) = (i + 1 : Nat) := by rw [wrap64 (by omega) (by omega)]; rfl
    simp -implicitDefEqProofs [hlt, encStrS_len, ey, wi]
    rw [← hn]
    refine ⟨by unfold maxLen; omega, by omega, ?_⟩
    exact ⟨ns.length - (i + 1), by omega, _, St.le_of (by simp) (by simp [St.trunc, look, mapV, mapC, killP]) rfl (by simp [St.trunc, mapC]), (hI _ _).2 ⟨i + 1, L ++ [⟨y, ⟨[], []⟩, false, true⟩], by omega, rfl, hnx.symm, rfl⟩⟩
  · have e : i = ns.length := by omega
    subst e
    rw [List.take_of_length_le (Nat.le_refl _), hr] at hL
    subst hL
    simp -implicitDefEqProofs
theorem c_l28Free (v : DValue) (out : List DUse) (K) (hs : szL (tValue v) ≤ 1048576) (hb : out.length ≤ 100000000) : Ct Tryz.prog 99 [.agg (encL .no (tValue v)), .sl (.of 77) out.length (encR .of (tUseS out))] K
    (.sl (.of 77) (out ++ freeU (varsV v)).length (encR .of (tUseS (out ++ freeU (varsV v))))) K := by
  have hvl := varsV_len v
  have hc := fun K => c_VarsInS v K hs
  have hl := encL_len (m := .no) (r := tValue v)
  rw [tValue_len] at hl
  have hk : (encL .no (tValue v)).take 4 = encL .no (tValue v) := List.take_of_length_le (by omega)
  generalize varsV v = ns at *
  generalize hr : out ++ freeU ns = r
  refine ct_fn { n0 := 7, ex := [], tk := [8, 15, 20, 21, 22, 23] } Tryz.func99 rfl (by kernel_rfl) (by kernel_rfl) rfl ?_
  simp -implicitDefEqProofs [Tryz.f99, hl, hk]
  refine callK_of (hc _) ?_
  simp -implicitDefEqProofs
  obtain ⟨I, hI⟩ : ∃ I : Nat → St → Prop, ∀ m s, I m s ↔ ∃ (i : Nat) (L : List DUse), i ≤ ns.length ∧ m = ns.length - i ∧ L = out ++ freeU (ns.take i) ∧
    s = { env := [(0, .agg (encL .no (tValue v))), (1, .sl (.of 77) L.length (encR .of (tUseS L))), (2, .ptr 0 0 0), (4, .sl .nil 0 []), (5, .sl (.of 9) ns.length (encR .of (tStrS ns))), (6, .int .i64 i)], loc := [],
          K := [encL .no (tValue v)] :: K } := ⟨_, fun _ _ => Iff.rfl⟩
  refine wC_loopI I ns.length ((hI _ _).2 ⟨0, out, by omega, rfl, by simp [freeU], rfl⟩) (St.le_of (by simp) (by simp) rfl rfl) ?_
  intro m s hm
  obtain ⟨i, L, hi, rfl, hL, rfl⟩ := (hI _ _).1 hm
  have hll : L.length = out.length + i := by rw [hL, List.length_append, freeU_len, List.length_take]; omega
  have hlc : (encR .of (tUseS L)).length = L.length * 5 := by rw [encUseS_len]
  rcases Nat.lt_or_ge i ns.length with hlt | hge
  · obtain ⟨y, hy⟩ : ∃ y, ns[i]? = some y := ⟨_, List.getElem?_eq_getElem hlt⟩
    have ey := atStr (m := .no) hy
    simp only [Nat.mul_one, encL, encT] at ey
    have hnx := freeU_take hy
    have hnx : L ++ [⟨y, ⟨[], []⟩, false, true⟩] = out ++ freeU (ns.take (i + 1)) := by rw [hnx, hL, List.append_assoc]
    have hn := snocUse (m := .of) (xs := L) (x := ⟨y, ⟨[], []⟩, false, true⟩)
    simp only [tUse, tType, encL_app, encL, encT, List.cons_append, List.nil_append] at hn
    have wi : IntKind.i64.wrap ((i : Int) + 1) = (i + 1 : Nat) := by rw [wrap64 (by omega) (by omega)]; rfl
    simp -implicitDefEqProofs [hlt, encStrS_len, ey, wi]
    intro hm1
    rw [← hn]
    refine ⟨by unfold maxLen; omega, by omega, ?_⟩
    exact ⟨ns.length - (i + 1), by omega, _, St.le_of (by simp) (by simp [St.trunc, look, mapV, mapC, killP]) rfl (by simp [St.trunc, mapC]), (hI _ _).2 ⟨i + 1, L ++ [⟨y, ⟨[], []⟩, false, true⟩], by omega, rfl, hnx, rfl⟩⟩
  · have e : i = ns.length := by omega
    subst e
    rw [List.take_of_length_le (Nat.le_refl _), hr] at hL
    subst hL
    simp -implicitDefEqProofs
def innerW (w : Bs) : Bs := if (cut (cut w [33]).1 [93]).2 then (cut (cut w [33]).1 [93]).1 else []
theorem c_Inner (n w : Bs) (K) : Ct Tryz.prog 113 [.agg [.str n, .str w]] K (.agg [.str n, .str (innerW w)]) K := by
  generalize hr : innerW w = r
  unfold innerW at hr
  refine ct_fn { n0 := 5, ex := [], tk := [7, 9, 16, 20] } Tryz.func113 rfl (by kernel_rfl) (by kernel_rfl) rfl ?_
  simp -implicitDefEqProofs [Tryz.f113]
  refine callK_of (c_Fewer n w _) ?_
  simp -implicitDefEqProofs
  refine callK_of (c_CutSuffix _ _ _) ?_
  simp -implicitDefEqProofs
  refine ⟨fun h => ?_, fun h => ?_⟩
  · rw [if_neg (by simp [h])] at hr
    subst hr; try simp
  · rw [if_pos h] at hr
    subst hr; try simp
theorem c_InnerS (n w : Bs) (K) : Ct Tryz.prog 130 [.agg [.str n, .str w]] K (.agg [.str n, .str (innerW w)]) K := by
  generalize hr : innerW w = r
  unfold innerW at hr
  rw [cut_snd] at hr
  have hsuf := hasSuf_one (s := (cut w [33]).1) (b := 93)
  refine ct_fn { n0 := 3, ex := [], tk := [4, 27, 30] } Tryz.func130 rfl (by kernel_rfl) (by kernel_rfl) rfl ?_
  simp -implicitDefEqProofs [Tryz.f130]
  refine callK_of (c_FewerS n w _) ?_
  simp -implicitDefEqProofs
  generalize (cut w [33]).1 = z at *
  intro hm _
  have wl : 0 < z.length → IntKind.i64.wrap ((z.length : Int) - 1) = ((z.length - 1 : Nat) : Int) := fun h => by unfold maxLen at hm; rw [wrap64 (by omega) (by omega)]; omega
  refine ⟨fun h => by rw [wl h]; omega, fun h1 h2 _ => ?_, fun h => ?_⟩
  · rw [wl h1] at h2 ⊢
    rw [Int.toNat_natCast] at h2 ⊢
    have hs : hasSuf z [93] = true := hsuf.2 ⟨h1, by simpa using h2⟩
    rw [if_pos hs, cut_fst hs] at hr
    subst hr
    exact ⟨by omega, by simp⟩
  · have hs : ¬ hasSuf z [93] = true := fun hs => by
      obtain ⟨h1, h2⟩ := hsuf.1 hs
      have h3 := h h1
      rw [wl h1, Int.toNat_natCast] at h3
      exact h3 (by simpa using h2)
    rw [if_neg hs] at hr
    subst hr; simp
def innerT (t : DType) : DType := ⟨t.name, innerW t.wraps⟩
/-! The InDef of a name. -/
def inAt (xs : List DInDef) (name : Bs) : Int := idxOf (fun d => decide (d.name = name)) xs 0
def zIn : DInDef := ⟨[], [], ⟨[], []⟩, false, ⟨0, [], [], []⟩, []⟩
def inOf (xs : List DInDef) (name : Bs) : DInDef := if inAt xs name < 0 ∨ 100 < xs.length then zIn else xs[(inAt xs name).toNat]?.getD zIn
def inOk (xs : List DInDef) (name : Bs) : Bool := decide (0 ≤ inAt xs name) && decide (xs.length ≤ 100)
theorem inAt_get {xs : List DInDef} {name : Bs} (h : 0 ≤ inAt xs name) : ∃ (i : Nat) (x : DInDef), inAt xs name = i ∧ i < xs.length ∧ xs[i]? = some x := by
  have h2 : inAt xs name < xs.length := by
    unfold inAt at h ⊢
    rcases idxOf_le (p := fun d : DInDef => decide (d.name = name)) (xs := xs) (k := 0) (by omega) with h3 | ⟨rfl, h3⟩ <;> omega
  exact ⟨(inAt xs name).toNat, xs[(inAt xs name).toNat]'(by omega), by omega, by omega, List.getElem?_eq_getElem (by omega)⟩
theorem c_InAt1 (x : DInDef) (name : Bs) (K) : Ct Tryz.prog 138 [.agg (encL .no (tInDef x)), .ptr 1 0 0] ([] :: [[.str name]] :: K) (.bool (decide (x.name = name))) ([] :: [[.str name]] :: K) := by
  obtain ⟨a0, a1, ⟨t0, t1⟩, a3, ⟨v0, v1, v2, v3⟩, a5⟩ := x
  refine ct_fn { n0 := 4, ex := [], tk := [] } Tryz.func138 rfl (by kernel_rfl) (by kernel_rfl) rfl ?_
  simp -implicitDefEqProofs [Tryz.f138, tInDef, tType, tValue, encL_app, encL, encT]
theorem c_InAt (xs : List DInDef) (name : Bs) (K) : Ct Tryz.prog 112 [.sl .no xs.length (encR .no (tInDefS xs)), .str name] K (.int .i64 (inAt xs name)) K := by
  refine ct_fn { n0 := 5, ex := [], tk := [7] } Tryz.func112 rfl (by kernel_rfl) (by kernel_rfl) rfl ?_
  simp -implicitDefEqProofs [Tryz.f112]
  refine callK_of (c_IndexFuncInDef xs (fun x => decide (x.name = name)) _ _ _ (fun x hx => by simpa using c_InAt1 x name _)) ?_
  simp -implicitDefEqProofs
  unfold inAt; rfl
theorem c_InAtS (xs : List DInDef) (name : Bs) (K) : Ct Tryz.prog 98 [.sl .no xs.length (encR .no (tInDefS xs)), .str name] K (.int .i64 (inAt xs name)) K := by
  generalize hr : inAt xs name = r
  unfold inAt at hr
  refine ct_fn { n0 := 6, ex := [], tk := [19] } Tryz.func98 rfl (by kernel_rfl) (by kernel_rfl) rfl ?_
  simp -implicitDefEqProofs [Tryz.f98]
  obtain ⟨I, hI⟩ : ∃ I : Nat → St → Prop, ∀ m s, I m s ↔ ∃ i, i ≤ xs.length ∧ m = xs.length - i ∧ idxOf (fun d : DInDef => decide (d.name = name)) (xs.drop i) i = r ∧
    s = { env := [(0, .sl .no xs.length (encR .no (tInDefS xs))), (1, .str name), (4, .int .i64 0), (5, .int .i64 i)], loc := [], K := [] :: K } := ⟨_, fun _ _ => Iff.rfl⟩
  refine wC_loopI I xs.length ((hI _ _).2 ⟨0, by omega, rfl, hr, rfl⟩) (St.le_of (by simp) (by simp) rfl rfl) ?_
  intro m s hs
  obtain ⟨i, hi, rfl, hz, rfl⟩ := (hI _ _).1 hs
  rcases Nat.lt_or_ge i xs.length with hlt | hge
  · obtain ⟨x, hx⟩ : ∃ x, xs[i]? = some x := ⟨_, List.getElem?_eq_getElem hlt⟩
    have ea := atInDef (m := .no) hx
    have ed := idxOf_drop (p := fun d : DInDef => decide (d.name = name)) hx i
    rw [hz] at ed
    obtain ⟨a0, a1, ⟨t0, t1⟩, a3, ⟨v0, v1, v2, v3⟩, a5⟩ := x
    simp only [tInDef, tType, tValue, encL_app, encL, encT, List.cons_append, List.nil_append] at ea
    simp -implicitDefEqProofs [hlt, ea, encInDefS_len]
    intro hm1
    unfold maxLen at hm1
    refine ⟨fun h => by rw [ed]; simp [h], fun h => ?_⟩
    simp (disch := omega) only [wrap64]
    refine ⟨xs.length - (i + 1), by omega, _, St.le_of (by simp) (by simp [St.trunc, look, mapV, mapC, killP]) rfl (by simp [St.trunc, mapC]), (hI _ _).2 ⟨i + 1, by omega, rfl, ?_, rfl⟩⟩
    rw [ed]; simp [h]
  · have e : i = xs.length := by omega
    subst e
    rw [List.drop_of_length_le (Nat.le_refl _)] at hz
    simp only [idxOf] at hz
    simp -implicitDefEqProofs [← hz]
theorem c_inNamed (xs : List DInDef) (name : Bs) (K) : Ct Tryz.prog 68 [.sl .no xs.length (encR .no (tInDefS xs)), .str name] K (.tup [.agg (encL .no (tInDef (inOf xs name))), .bool (inOk xs name)]) K := by
  generalize hr : inOf xs name = r
  generalize hq : inOk xs name = q
  unfold inOf at hr
  unfold inOk at hq
  refine ct_fn { n0 := 7, ex := [], tk := [9, 17, 21] } Tryz.func68 rfl (by kernel_rfl) (by kernel_rfl) rfl ?_
  simp -implicitDefEqProofs [Tryz.f68]
  refine callK_of (c_InAt xs name _) ?_
  have hz : (AC.agg [AC.str [], AC.str [], AC.str [], AC.str [], AC.bool false, AC.int IntKind.i64 0, AC.str [], AC.sl Ow.nil 0 [], AC.sl Ow.nil 0 [], AC.sl Ow.nil 0 []]).le (AC.agg (encL Md.no (tInDef zIn))) := by
    refine AC.le_agg ?_
    simp [zIn, tInDef, tType, tValue, encL_app, encL, encT, encR, tStrS, tValueS, tDirS]
  rcases (by omega : inAt xs name < 0 ∨ 0 ≤ inAt xs name) with hn | hp
  · rw [if_pos (.inl hn)] at hr
    have hn' : ¬ 0 ≤ inAt xs name := by omega
    rw [decide_eq_false hn', Bool.false_and] at hq
    subst hr
    subst hq
    simp -implicitDefEqProofs [hn, hn']
    exact hz
  · obtain ⟨i, x, e, hlt, hx⟩ := inAt_get hp
    have ea := atInDef (m := .no) hx
    rw [e] at hr hq ⊢
    rw [decide_eq_true (by omega), Bool.true_and] at hq
    rcases Nat.lt_or_ge 100 xs.length with hg | hg
    · rw [if_pos (.inr hg)] at hr
      rw [decide_eq_false (by omega)] at hq
      subst hr
      subst hq
      have hg2 : (100 : Int) < xs.length := by omega
      simp -implicitDefEqProofs [hg2]
      intro hm1
      exact hz
    · rw [if_neg (by omega), Int.toNat_natCast, hx] at hr
      rw [decide_eq_true hg] at hq
      simp only [Option.getD_some] at hr
      subst hr
      subst hq
      have hg2 : ¬ (100 : Int) < xs.length := by omega
      have hg3 : (xs.length : Int) ≤ 100 := by omega
      obtain ⟨a0, a1, ⟨t0, t1⟩, a3, ⟨v0, v1, v2, v3⟩, a5⟩ := x
      simp only [tInDef, tType, tValue, encL_app, encL, encT, List.cons_append, List.nil_append, Md.ow_no, tStrS_len, tValueS_len, tDirS_len] at ea ⊢
      simp -implicitDefEqProofs [hg2, hg3, hlt, ea, encInDefS_len]
end Go.Proofs.YthagllbnkbahnaaGreat.Abs
