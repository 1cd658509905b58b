/- Texts: search among them. No condition. -/
import Derived.Test.YtkpdlbidadcdjaaCopies
import Derived.Test.YtkpdlbidadcdjaaSelsP
import Derived.Test.YtkpdlbidadcdjaaLib
set_option linter.unusedVariables false
set_option linter.unusedSimpArgs false
namespace Go.Proofs.Ytkpdlbidadcdjaa.Abs
open Go
set_option maxHeartbeats 1000000
set_option maxRecDepth 100000
theorem c_l18Has (xs : List Bs) (v : Bs) (K) : Ct Try.prog 21 [.sl .no xs.length (encR .no (tStrS xs)), .str v] K (.bool (decide (v ∈ xs))) K := by
  refine ct_fn { n0 := 6, ex := [], tk := [] } Try.func21 rfl (by kernel_rfl) (by kernel_rfl) rfl ?_
  simp -implicitDefEqProofs [Try.f21]
  obtain ⟨I, hI⟩ : ∃ I : Nat → St → Prop, ∀ m s, I m s ↔ ∃ i, i ≤ xs.length ∧ m = xs.length - i ∧ v ∉ xs.take i ∧
    s = { env := [(0, .sl .no xs.length (encR .no (tStrS xs))), (1, .str v), (4, .bool false), (5, .int .i64 i)], loc := [], K := [] :: K } := ⟨_, fun _ _ => Iff.rfl⟩
  refine wC_loopI I xs.length ((hI _ _).2 ⟨0, by omega, rfl, by simp, rfl⟩) (St.le_of (by simp) (by simp) rfl rfl) ?_
  intro m s hs
  obtain ⟨i, hi, rfl, hz, rfl⟩ := (hI _ _).1 hs
  rcases Nat.lt_or_ge i xs.length with hlt | hge
  · obtain ⟨x, hx⟩ : ∃ x, xs[i]? = some x := ⟨_, List.getElem?_eq_getElem hlt⟩
    have ea := atStr (m := .no) hx
    simp only [Nat.mul_one, encL, encT] at ea
    simp -implicitDefEqProofs [hlt, ea, encStrS_len]
    intro hm1
    refine ⟨fun h => by subst h; simp [List.mem_of_getElem? hx], fun h => ?_⟩
    unfold maxLen at *
    simp (disch := omega) only [wrap64]
    refine ⟨xs.length - (i + 1), by omega, _, St.le_of (by simp) (by simp [St.trunc, look, mapV, mapC, killP]) rfl (by simp [St.trunc, mapC]), (hI _ _).2 ⟨i + 1, by omega, rfl, ?_, rfl⟩⟩
    rw [List.take_add_one, hx]; simp [hz]; exact fun e => h e.symm
  · have e : i = xs.length := by omega
    subst e
    rw [List.take_of_length_le (Nat.le_refl _)] at hz
    simp -implicitDefEqProofs [hz]
theorem idxOf_mem {xs : List Bs} {v : Bs} : (0 ≤ idxOf (fun x => decide (v = x)) xs 0) ↔ v ∈ xs := by
  rw [idxOf_any (by omega)]; simp
theorem c_IndexStr (xs : List Bs) (v : Bs) (K) : Ct Try.prog 43 [.sl .no xs.length (encR .no (tStrS xs)), .str v] K (.int .i64 (idxOf (fun x => decide (v = x)) xs 0)) K := by
  refine ct_fn { n0 := 6, ex := [7, 8], tk := [17] } Try.func43 rfl (by kernel_rfl) (by kernel_rfl) rfl ?_
  simp -implicitDefEqProofs [Try.f43]
  intro h1
  obtain ⟨I, hI⟩ : ∃ I : Nat → St → Prop, ∀ m s, I m s ↔ ∃ i, i ≤ xs.length ∧ m = xs.length - i ∧ idxOf (fun x => decide (v = x)) (xs.drop i) i = idxOf (fun x => decide (v = x)) xs 0 ∧
    s = { env := [(0, .sl .no xs.length (encR .no (tStrS xs))), (1, .str v), (4, .int .i64 0), (7, .int .i64 xs.length), (8, .int .i64 i)], loc := [], K := [] :: K } := ⟨_, fun _ _ => Iff.rfl⟩
  refine wC_loopI I xs.length ((hI _ _).2 ⟨0, by omega, rfl, rfl, rfl⟩) (St.le_of (by simp) (by simp) rfl rfl) ?_
  intro m s hs
  obtain ⟨i, hi, rfl, hz, rfl⟩ := (hI _ _).1 hs
  rcases Nat.lt_or_ge i xs.length with hlt | hge
  · obtain ⟨x, hx⟩ : ∃ x, xs[i]? = some x := ⟨_, List.getElem?_eq_getElem hlt⟩
    have ea := atStr (m := .no) hx
    have ed := idxOf_drop (p := fun x => decide (v = x)) hx i
    simp only [Nat.mul_one, encL, encT] at ea
    simp -implicitDefEqProofs [hlt, ea, encStrS_len]
    refine ⟨fun h => by rw [← hz, ed]; simp [h], fun h => ?_⟩
    unfold maxLen at *
    simp (disch := omega) only [wrap64]
    refine ⟨xs.length - (i + 1), by omega, _, St.le_of (by simp) (by simp [St.trunc, look, mapV, mapC, killP]) rfl (by simp [St.trunc, mapC]), (hI _ _).2 ⟨i + 1, by omega, rfl, ?_, rfl⟩⟩
    rw [← hz, ed]; simp [h]
  · have e : i = xs.length := by omega
    subst e
    simp -implicitDefEqProofs
    rw [← hz]; simp [idxOf]
theorem c_ContainsStr (xs : List Bs) (v : Bs) (K) : Ct Try.prog 27 [.sl .no xs.length (encR .no (tStrS xs)), .str v] K (.bool (decide (v ∈ xs))) K := by
  refine ct_fn { n0 := 5, ex := [], tk := [7] } Try.func27 rfl (by kernel_rfl) (by kernel_rfl) rfl ?_
  simp -implicitDefEqProofs [Try.f27]
  refine callK_of (c_IndexStr xs v _) ?_
  simp -implicitDefEqProofs
  exact idxOf_mem.symm
end Go.Proofs.Ytkpdlbidadcdjaa.Abs
