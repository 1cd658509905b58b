/- Roots of a schema: RootOf, OwnerOf; the law FnExactOwnerOf. No condition. -/
import Derived.Test.YtcgkcbmhjbbjmaaFam
import Derived.Test.YtcgkcbmhjbbjmaaLend
set_option linter.unusedVariables false
set_option linter.unusedSimpArgs false
namespace Go.Proofs.Ytcgkcbmhjbbjmaa.Abs
open Go
set_option maxHeartbeats 1000000
set_option maxRecDepth 100000
def rootIn (rs : List DRoot) (k : Int) : Bs := match rs with
  | [] => []
  | r :: rs => if r.kind = k then r.ty else rootIn rs k
theorem rootIn_drop {rs : List DRoot} {k : Int} {i : Nat} {r : DRoot} (h : rs[i]? = some r) : rootIn (rs.drop i) k = if r.kind = k then r.ty else rootIn (rs.drop (i + 1)) k := by
  obtain ⟨hlt, rfl⟩ := List.getElem?_eq_some_iff.1 h
  rw [List.drop_eq_getElem_cons hlt]; rfl
theorem c_RootOf (s : DSchema) (k : Int) (K) : Ct Try.prog 124 [.agg (encL .no (tSchema s)), .int .i64 k] K (.str (rootIn s.roots k)) K := by
  obtain ⟨x0, x1, x2⟩ := s
  refine ct_fn { n0 := 7, ex := [8, 9, 10], tk := [19] } Try.func124 rfl (by kernel_rfl) (by kernel_rfl) rfl ?_
  simp -implicitDefEqProofs [Try.f124, tSchema, encL, encT]
  intro h1
  obtain ⟨I, hI⟩ : ∃ I : Nat → St → Prop, ∀ m s, I m s ↔ ∃ i, i ≤ x2.length ∧ m = x2.length - i ∧ rootIn (x2.drop i) k = rootIn x2 k ∧
    s = { env := [(0, .agg [.sl .no x0.length (encR .no (tDefS x0)), .sl .no x1.length (encR .no (tDefS x1)), .sl .no x2.length (encR .no (tRootS x2))]), (1, .int .i64 k), (2, .ptr 0 0 0), (4, .str []), (8, .sl .no x2.length (encR .no (tRootS x2))), (9, .int .i64 x2.length), (10, .int .i64 i)],
          loc := [], K := [[.sl .no x0.length (encR .no (tDefS x0)), .sl .no x1.length (encR .no (tDefS x1)), .sl .no x2.length (encR .no (tRootS x2))]] :: K } := ⟨_, fun _ _ => Iff.rfl⟩
  refine wC_loopI I x2.length ((hI _ _).2 ⟨0, by omega, rfl, rfl, rfl⟩) (St.le_of (by simp) (by simp) rfl rfl) ?_
  intro m s hs
  obtain ⟨i, hi, rfl, hz, rfl⟩ := (hI _ _).1 hs
  rcases Nat.lt_or_ge i x2.length with hlt | hge
  · obtain ⟨⟨x, z⟩, hx⟩ : ∃ x, x2[i]? = some x := ⟨_, List.getElem?_eq_getElem hlt⟩
    have ea := atRoot (m := .no) hx
    have ed := rootIn_drop (k := k) hx
    simp only [tRoot, encL, encT] at ea
    simp -implicitDefEqProofs [hlt, ea, encRootS_len]
    refine ⟨fun h => by rw [← hz, ed]; simp [h], fun h => ?_⟩
    unfold maxLen at *
    simp (disch := omega) only [wrap64]
    refine ⟨x2.length - (i + 1), by omega, _, St.le_of (by simp) (by simp [St.trunc, look, mapV, mapC, killP]) rfl (by simp [St.trunc, mapC]), (hI _ _).2 ⟨i + 1, by omega, rfl, ?_, rfl⟩⟩
    rw [← hz, ed]; simp [h]
  · have e : i = x2.length := by omega
    subst e
    simp -implicitDefEqProofs
    rw [← hz]; simp [rootIn]
theorem c_RootOfS (s : DSchema) (k : Int) (K) : Ct Try.prog 122 [.agg (encL .no (tSchema s)), .int .i64 k] K (.str (rootIn s.roots k)) K := by
  obtain ⟨x0, x1, x2⟩ := s
  refine ct_fn { n0 := 6, ex := [], tk := [26] } Try.func122 rfl (by kernel_rfl) (by kernel_rfl) rfl ?_
  simp -implicitDefEqProofs [Try.f122, tSchema, encL, encT]
  obtain ⟨I, hI⟩ : ∃ I : Nat → St → Prop, ∀ m s, I m s ↔ ∃ i, i ≤ x2.length ∧ m = x2.length - i ∧ rootIn (x2.drop i) k = rootIn x2 k ∧
    s = { env := [(0, .agg [.sl .no x0.length (encR .no (tDefS x0)), .sl .no x1.length (encR .no (tDefS x1)), .sl .no x2.length (encR .no (tRootS x2))]), (1, .int .i64 k), (2, .ptr 0 0 0), (4, .str []), (5, .int .i64 i)],
          loc := [], K := [[.sl .no x0.length (encR .no (tDefS x0)), .sl .no x1.length (encR .no (tDefS x1)), .sl .no x2.length (encR .no (tRootS x2))]] :: K } := ⟨_, fun _ _ => Iff.rfl⟩
  refine wC_loopI I x2.length ((hI _ _).2 ⟨0, by omega, rfl, rfl, rfl⟩) (St.le_of (by simp) (by simp) rfl rfl) ?_
  intro m s hs
  obtain ⟨i, hi, rfl, hz, rfl⟩ := (hI _ _).1 hs
  rcases Nat.lt_or_ge i x2.length with hlt | hge
  · obtain ⟨⟨x, z⟩, hx⟩ : ∃ x, x2[i]? = some x := ⟨_, List.getElem?_eq_getElem hlt⟩
    have ea := atRoot (m := .no) hx
    have ed := rootIn_drop (k := k) hx
    simp only [tRoot, encL, encT] at ea
    simp -implicitDefEqProofs [hlt, ea, encRootS_len]
    intro hm
    refine ⟨fun h => by rw [← hz, ed]; simp [h], fun h => ?_⟩
    unfold maxLen at *
    simp (disch := omega) only [wrap64]
    refine ⟨x2.length - (i + 1), by omega, _, St.le_of (by simp) (by simp [St.trunc, look, mapV, mapC, killP]) rfl (by simp [St.trunc, mapC]), (hI _ _).2 ⟨i + 1, by omega, rfl, ?_, rfl⟩⟩
    rw [← hz, ed]; simp [h]
  · have e : i = x2.length := by omega
    subst e
    simp -implicitDefEqProofs
    intro _
    rw [← hz]; simp [rootIn]
theorem c_OwnerOf (s : DSchema) (o : DOp) (K) : Ct Try.prog 66 [.agg (encL .no (tSchema s)), .agg (encL .no (tOp o))] K (.str (rootIn s.roots o.kind)) K := by
  have hc := fun K => c_RootOf s o.kind K
  obtain ⟨x0, x1, x2⟩ := s
  obtain ⟨y0, y1, y2, y3, y4⟩ := o
  simp only [tSchema, encL, encT, Md.ow_no, tDefS_len, tRootS_len] at hc
  refine ct_fn { n0 := 5, ex := [], tk := [8] } Try.func66 rfl (by kernel_rfl) (by kernel_rfl) rfl ?_
  simp -implicitDefEqProofs [Try.f66, tSchema, tOp, encL, encT]
  refine callK_of (hc _) ?_
  simp -implicitDefEqProofs
theorem c_OwnerOfS (s : DSchema) (o : DOp) (K) : Ct Try.prog 64 [.agg (encL .no (tSchema s)), .agg (encL .no (tOp o))] K (.str (rootIn s.roots o.kind)) K := by
  have hc := fun K => c_RootOfS s o.kind K
  obtain ⟨x0, x1, x2⟩ := s
  obtain ⟨y0, y1, y2, y3, y4⟩ := o
  simp only [tSchema, encL, encT, Md.ow_no, tDefS_len, tRootS_len] at hc
  refine ct_fn { n0 := 5, ex := [], tk := [8] } Try.func64 rfl (by kernel_rfl) (by kernel_rfl) rfl ?_
  simp -implicitDefEqProofs [Try.f64, tSchema, tOp, encL, encT]
  refine callK_of (hc _) ?_
  simp -implicitDefEqProofs
end Go.Proofs.Ytcgkcbmhjbbjmaa.Abs
