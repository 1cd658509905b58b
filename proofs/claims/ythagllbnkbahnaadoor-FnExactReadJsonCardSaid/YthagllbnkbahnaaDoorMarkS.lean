/- Marks of a struct, whose box takes back what was marked: plain part. No condition. -/
import Derived.Test.YthagllbnkbahnaaDoorMk
set_option linter.unusedVariables false
set_option linter.unusedSimpArgs false
namespace Go.Proofs.YthagllbnkbahnaaDoor.Abs
open Go
/-- How many marks a struct's slices take. -/
def cnF : List Tr → Nat
  | [] => 0
  | .sl _ rows :: ts => cnR rows + cnF ts
  | _ :: ts => cnF ts
theorem cnF_app {a b : List Tr} : cnF (a ++ b) = cnF a + cnF b := by
  induction a with
  | nil => simp [cnF]
  | cons t ts ih => cases t <;> simp [cnF, ih]; omega
theorem cnF_cn : ∀ r : List Tr, cnF r ≤ cnL r := by
  intro r; induction r with
  | nil => simp [cnF, cnL]
  | cons t ts ih => cases t <;> simp only [cnF, cnL, cnT] <;> omega
theorem cnF_le {r : List Tr} (h : wdL r) : cnF r ≤ r.length + 40 * szL r := Nat.le_trans (cnF_cn r) (cnL_le r h)
/-- A struct whose slices bear marks from k on. -/
def mkF : List Tr → Int → List Tr
  | [], _ => []
  | .sl e rows :: ts, k => .sl e (mkR rows k) :: mkF ts (k + cnR rows)
  | t :: ts, k => t :: mkF ts k
theorem mkF_app {a b : List Tr} : ∀ {k : Int}, mkF (a ++ b) k = mkF a k ++ mkF b (k + cnF a) := by
  induction a with
  | nil => intro k; simp [mkF, cnF]
  | cons t ts ih => intro k; cases t <;> simp [mkF, cnF, ih]; congr 1; omega
theorem mkF_len : ∀ {r : List Tr} {k : Int}, (mkF r k).length = r.length := by
  intro r; induction r with
  | nil => intro k; simp [mkF]
  | cons t ts ih => intro k; cases t <;> simp [mkF, ih]
end Go.Proofs.YthagllbnkbahnaaDoor.Abs
