/- Texts: search among them. No condition. -/
import Derived.Test.YthagllbnkbahnaaGreatCopies
import Derived.Test.YthagllbnkbahnaaGreatSelsP
import Derived.Test.YthagllbnkbahnaaGreatLib
set_option linter.unusedVariables false
set_option linter.unusedSimpArgs false
namespace Go.Proofs.YthagllbnkbahnaaGreat.Abs
open Go
set_option maxHeartbeats 1000000
set_option maxRecDepth 100000
theorem idxOf_mem {xs : List Bs} {v : Bs} : (0 ≤ idxOf (fun x => decide (v = x)) xs 0) ↔ v ∈ xs := by
  rw [idxOf_any (by omega)]; simp
theorem c_IndexStr (xs : List Bs) (v : Bs) (K) : Ct Tryz.prog 159 [.sl .no xs.length (encR .no (tStrS xs)), .str v] K (.int .i64 (idxOf (fun x => decide (v = x)) xs 0)) K := by
  refine ct_fn { n0 := 6, ex := [7, 8], tk := [17] } Tryz.func159 rfl (by kernel_rfl) (by kernel_rfl) rfl ?_
  simp -implicitDefEqProofs [Tryz.f159]
  intro h1
  obtain ⟨I, hI⟩ : ∃ I : Nat → St → Prop, ∀ m s, I m s ↔ ∃ i, i ≤ xs.length ∧ m = xs.length - i ∧ idxOf (fun x => decide (v = x)) (xs.drop i) i = idxOf (fun x => decide (v = x)) xs 0 ∧
    s = { env := [(0, .sl .no xs.length (encR .no (tStrS xs))), (1, .str v), (4, .int .i64 0), (7, .int .i64 xs.length), (8, .int .i64 i)], loc := [], K := [] :: K } := ⟨_, fun _ _ => Iff.rfl⟩
  refine wC_loopI I xs.length ((hI _ _).2 ⟨0, by omega, rfl, rfl, rfl⟩) (St.le_of (by simp) (by simp) rfl rfl) ?_
  intro m s hs
  obtain ⟨i, hi, rfl, hz, rfl⟩ := (hI _ _).1 hs
  rcases Nat.lt_or_ge i xs.length with hlt | hge
  · obtain ⟨x, hx⟩ : ∃ x, xs[i]? = some x := ⟨_, List.getElem?_eq_getElem hlt⟩
    have ea := atStr (m := .no) hx
    have ed := idxOf_drop (p := fun x => decide (v = x)) hx i
    simp only [Nat.mul_one, encL, encT] at ea
    simp -implicitDefEqProofs [hlt, ea, encStrS_len]
    refine ⟨fun h => by rw [← hz, ed]; simp [h], fun h => ?_⟩
    unfold maxLen at *
    simp (disch := omega) only [wrap64]
    refine ⟨xs.length - (i + 1), by omega, _, St.le_of (by simp) (by simp [St.trunc, look, mapV, mapC, killP]) rfl (by simp [St.trunc, mapC]), (hI _ _).2 ⟨i + 1, by omega, rfl, ?_, rfl⟩⟩
    rw [← hz, ed]; simp [h]
  · have e : i = xs.length := by omega
    subst e
    simp -implicitDefEqProofs
    rw [← hz]; simp [idxOf]
theorem c_ContainsStr (xs : List Bs) (v : Bs) (K) : Ct Tryz.prog 141 [.sl .no xs.length (encR .no (tStrS xs)), .str v] K (.bool (decide (v ∈ xs))) K := by
  refine ct_fn { n0 := 5, ex := [], tk := [7] } Tryz.func141 rfl (by kernel_rfl) (by kernel_rfl) rfl ?_
  simp -implicitDefEqProofs [Tryz.f141]
  refine callK_of (c_IndexStr xs v _) ?_
  simp -implicitDefEqProofs
  exact idxOf_mem.symm
end Go.Proofs.YthagllbnkbahnaaGreat.Abs
