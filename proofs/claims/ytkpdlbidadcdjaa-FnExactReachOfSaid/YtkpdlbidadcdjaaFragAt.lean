/- FragAt. No condition. -/
import Derived.Test.YtkpdlbidadcdjaaFam
import Derived.Test.YtkpdlbidadcdjaaLib
set_option linter.unusedVariables false
set_option linter.unusedSimpArgs false
namespace Go.Proofs.Ytkpdlbidadcdjaa.Abs
open Go
set_option maxHeartbeats 1000000
set_option maxRecDepth 100000
def fragAt (xs : List DFrag) (name : Bs) : Int := idxOf (fun x => decide (x.name = name)) xs 0
theorem c_FragAt1 (x : DFrag) (name : Bs) (K) : Ct Try.prog 42 [.agg (encL .no (tFrag x)), .ptr 1 0 0] ([] :: [[.str name]] :: K) (.bool (decide (x.name = name))) ([] :: [[.str name]] :: K) := by
  obtain ⟨x0, x1, x2, x3⟩ := x
  refine ct_fn { n0 := 4, ex := [], tk := [] } Try.func42 rfl (by kernel_rfl) (by kernel_rfl) rfl ?_
  simp -implicitDefEqProofs [Try.f42, tFrag, encL, encT]
theorem c_FragAt (xs : List DFrag) (name : Bs) (K) : Ct Try.prog 26 [.sl .no xs.length (encR .no (tFragS xs)), .str name] K (.int .i64 (fragAt xs name)) K := by
  refine ct_fn { n0 := 5, ex := [], tk := [7] } Try.func26 rfl (by kernel_rfl) (by kernel_rfl) rfl ?_
  simp -implicitDefEqProofs [Try.f26]
  refine callK_of (c_IndexFuncFrag xs (fun x => decide (x.name = name)) _ _ _ (fun x hx => by simpa using c_FragAt1 x name _)) ?_
  simp -implicitDefEqProofs [fragAt]
theorem c_FragAtS (xs : List DFrag) (name : Bs) (K) : Ct Try.prog 20 [.sl .no xs.length (encR .no (tFragS xs)), .str name] K (.int .i64 (fragAt xs name)) K := by
  refine ct_fn { n0 := 6, ex := [], tk := [19] } Try.func20 rfl (by kernel_rfl) (by kernel_rfl) rfl ?_
  simp -implicitDefEqProofs [Try.f20]
  obtain ⟨I, hI⟩ : ∃ I : Nat → St → Prop, ∀ m s, I m s ↔ ∃ i, i ≤ xs.length ∧ m = xs.length - i ∧ idxOf (fun x => decide (x.name = name)) (xs.drop i) i = fragAt xs name ∧
    s = { env := [(0, .sl .no xs.length (encR .no (tFragS xs))), (1, .str name), (4, .int .i64 0), (5, .int .i64 i)], loc := [], K := [] :: K } := ⟨_, fun _ _ => Iff.rfl⟩
  refine wC_loopI I xs.length ((hI _ _).2 ⟨0, by omega, rfl, rfl, rfl⟩) (St.le_of (by simp) (by simp) rfl rfl) ?_
  intro m s hs
  obtain ⟨i, hi, rfl, hz, rfl⟩ := (hI _ _).1 hs
  rcases Nat.lt_or_ge i xs.length with hlt | hge
  · obtain ⟨x, hx⟩ : ∃ x, xs[i]? = some x := ⟨_, List.getElem?_eq_getElem hlt⟩
    have ea := atFrag (m := .no) hx
    have ed := idxOf_drop (p := fun x => decide (x.name = name)) hx i
    obtain ⟨x0, x1, x2, x3⟩ := x
    simp only [tFrag, encL, encT] at ea
    simp -implicitDefEqProofs [hlt, ea, encFragS_len]
    intro hm
    refine ⟨fun h => by rw [← hz, ed]; simp [h], fun h => ?_⟩
    unfold maxLen at *
    simp (disch := omega) only [wrap64]
    refine ⟨xs.length - (i + 1), by omega, _, St.le_of (by simp) (by simp [St.trunc, look, mapV, mapC, killP]) rfl (by simp [St.trunc, mapC]), (hI _ _).2 ⟨i + 1, by omega, rfl, ?_, rfl⟩⟩
    rw [← hz, ed]; simp [h]
  · have e : i = xs.length := by omega
    subst e
    simp -implicitDefEqProofs
    rw [← hz]; simp [idxOf]
end Go.Proofs.Ytkpdlbidadcdjaa.Abs
