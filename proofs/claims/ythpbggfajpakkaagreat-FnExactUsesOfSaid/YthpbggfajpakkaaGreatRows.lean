/-
  NARROWER THAN 'FOR EVERY INPUT', by the rows' own cells (each row's printed sentence says how): FnExactUsesOf: loops · FnExactBare: loops · FnExactPlacesOf: loops · FnExactFragsIn: loops · FnExactOpsIn: loops · FnExactUsesIn: loops.
  DERIVED. THE GIVEN ROWS OF THIS SEAT. 6 by the template 'for every input the law returns true; each argument reads behind the call as it read before'; 0 by the template 'total and deterministic' (their statements: YthpbggfajpakkaaGreatTotals.lean).
  GIVEN WITH THE SEED: the statements are not yours to turn. If you find one false, say at which input.
  Laid BY PROGRAM, IN A SANDBOX (cutbox-rows.mjs): the forced cells as the released guide's own fill.sh prints them over the translation 3038991e1ef7e44e… (all of the seat's roots in one cut). By AI agents, Wed Nov 11 2026. No macro, syntax, notation, axiom, sorry.
-/
import Derived.Test.YthpbggfajpakkaaGreatChecked
import GoSem.Claim
import GoSem.ClaimJoined
import GoSem.ClaimMapViews
import Derived.JoinedTies
import Derived.KernelRfl
namespace Go.Proofs.YthpbggfajpakkaaGreat
/- THE CELL 'sum', in the pinned program and in every row, IS THE sha256 OF THE DUMP (.gsa) THAT YthpbggfajpakkaaGreatProg.lean LOADS. Nothing in Lean hashes anything: it is a label: what it is worth is what the hold of that sum in a sandbox is worth. -/
noncomputable def Tryz.pinned : Pinned := { name := "ythpbggfajpakkaagreat", sum := "3038991e1ef7e44ef11a085d4cddb626642d9afc1c60e2777be1fdbf1b31a14e", checked := Tryz.checked }
namespace Rows
def none {H : Type} : Left H := { results := [], args := [] }

/-- 'laws.FnExactUsesOf': WHATEVER THE INPUT: true; the input reads as it did. -/
def fnExactUsesOfSpec : ChangeSpec := { name := "fnExactUsesOf", fn := fun _ => fun
  | [d1, d2, d3, d4] => { results := [.lit (.bool true)], args := [d1, d2, d3, d4] }
  | _ => none }
def fnExactUsesOfRow : OpenClaim := { program := "ythpbggfajpakkaagreat", sum := "3038991e1ef7e44ef11a085d4cddb626642d9afc1c60e2777be1fdbf1b31a14e", func := "loop.example/g00964/laws.FnExactUsesOf", spec := "fnExactUsesOf", unfollowed := true, recurses := true, loops := true, apart := false }
def FnExactUsesOfSaid : Prop := fnExactUsesOfRow.holds Tryz.pinned (OpenSpec.ofChange fnExactUsesOfSpec)

/-- ITS FALSE NEIGHBOUR: 'it returns false'. Refute it at one input. -/
def fnExactUsesOfWrong : ChangeSpec := { name := "fnExactUsesOf", fn := fun _ => fun
  | [d1, d2, d3, d4] => { results := [.lit (.bool false)], args := [d1, d2, d3, d4] }
  | _ => none }
def FnExactUsesOfWrongFalsely : Prop := fnExactUsesOfRow.holds Tryz.pinned (OpenSpec.ofChange fnExactUsesOfWrong)

/-- 'laws.FnExactBare': WHATEVER THE INPUT: true; the input reads as it did. -/
def fnExactBareSpec : ChangeSpec := { name := "fnExactBare", fn := fun _ => fun
  | [d] => { results := [.lit (.bool true)], args := [d] }
  | _ => none }
def fnExactBareRow : OpenClaim := { program := "ythpbggfajpakkaagreat", sum := "3038991e1ef7e44ef11a085d4cddb626642d9afc1c60e2777be1fdbf1b31a14e", func := "loop.example/g00964/laws.FnExactBare", spec := "fnExactBare", recurses := true, loops := true, apart := false }
def FnExactBareSaid : Prop := fnExactBareRow.holds Tryz.pinned (OpenSpec.ofChange fnExactBareSpec)

/-- ITS FALSE NEIGHBOUR: 'it returns false'. Refute it at one input. -/
def fnExactBareWrong : ChangeSpec := { name := "fnExactBare", fn := fun _ => fun
  | [d] => { results := [.lit (.bool false)], args := [d] }
  | _ => none }
def FnExactBareWrongFalsely : Prop := fnExactBareRow.holds Tryz.pinned (OpenSpec.ofChange fnExactBareWrong)

/-- 'laws.FnExactPlacesOf': WHATEVER THE INPUT: true; the input reads as it did. -/
def fnExactPlacesOfSpec : ChangeSpec := { name := "fnExactPlacesOf", fn := fun _ => fun
  | [d1, d2, d3] => { results := [.lit (.bool true)], args := [d1, d2, d3] }
  | _ => none }
def fnExactPlacesOfRow : OpenClaim := { program := "ythpbggfajpakkaagreat", sum := "3038991e1ef7e44ef11a085d4cddb626642d9afc1c60e2777be1fdbf1b31a14e", func := "loop.example/g00964/laws.FnExactPlacesOf", spec := "fnExactPlacesOf", unfollowed := true, recurses := true, loops := true, apart := false }
def FnExactPlacesOfSaid : Prop := fnExactPlacesOfRow.holds Tryz.pinned (OpenSpec.ofChange fnExactPlacesOfSpec)

/-- ITS FALSE NEIGHBOUR: 'it returns false'. Refute it at one input. -/
def fnExactPlacesOfWrong : ChangeSpec := { name := "fnExactPlacesOf", fn := fun _ => fun
  | [d1, d2, d3] => { results := [.lit (.bool false)], args := [d1, d2, d3] }
  | _ => none }
def FnExactPlacesOfWrongFalsely : Prop := fnExactPlacesOfRow.holds Tryz.pinned (OpenSpec.ofChange fnExactPlacesOfWrong)

/-- 'laws.FnExactFragsIn': WHATEVER THE INPUT: true; the input reads as it did. -/
def fnExactFragsInSpec : ChangeSpec := { name := "fnExactFragsIn", fn := fun _ => fun
  | [d] => { results := [.lit (.bool true)], args := [d] }
  | _ => none }
def fnExactFragsInRow : OpenClaim := { program := "ythpbggfajpakkaagreat", sum := "3038991e1ef7e44ef11a085d4cddb626642d9afc1c60e2777be1fdbf1b31a14e", func := "loop.example/g00964/laws.FnExactFragsIn", spec := "fnExactFragsIn", recurses := true, loops := true, apart := false }
def FnExactFragsInSaid : Prop := fnExactFragsInRow.holds Tryz.pinned (OpenSpec.ofChange fnExactFragsInSpec)

/-- ITS FALSE NEIGHBOUR: 'it returns false'. Refute it at one input. -/
def fnExactFragsInWrong : ChangeSpec := { name := "fnExactFragsIn", fn := fun _ => fun
  | [d] => { results := [.lit (.bool false)], args := [d] }
  | _ => none }
def FnExactFragsInWrongFalsely : Prop := fnExactFragsInRow.holds Tryz.pinned (OpenSpec.ofChange fnExactFragsInWrong)

/-- 'laws.FnExactOpsIn': WHATEVER THE INPUT: true; the input reads as it did. -/
def fnExactOpsInSpec : ChangeSpec := { name := "fnExactOpsIn", fn := fun _ => fun
  | [d] => { results := [.lit (.bool true)], args := [d] }
  | _ => none }
def fnExactOpsInRow : OpenClaim := { program := "ythpbggfajpakkaagreat", sum := "3038991e1ef7e44ef11a085d4cddb626642d9afc1c60e2777be1fdbf1b31a14e", func := "loop.example/g00964/laws.FnExactOpsIn", spec := "fnExactOpsIn", recurses := true, loops := true, apart := false }
def FnExactOpsInSaid : Prop := fnExactOpsInRow.holds Tryz.pinned (OpenSpec.ofChange fnExactOpsInSpec)

/-- ITS FALSE NEIGHBOUR: 'it returns false'. Refute it at one input. -/
def fnExactOpsInWrong : ChangeSpec := { name := "fnExactOpsIn", fn := fun _ => fun
  | [d] => { results := [.lit (.bool false)], args := [d] }
  | _ => none }
def FnExactOpsInWrongFalsely : Prop := fnExactOpsInRow.holds Tryz.pinned (OpenSpec.ofChange fnExactOpsInWrong)

/-- 'laws.FnExactUsesIn': WHATEVER THE INPUT: true; the input reads as it did. -/
def fnExactUsesInSpec : ChangeSpec := { name := "fnExactUsesIn", fn := fun _ => fun
  | [d1, d2, d3] => { results := [.lit (.bool true)], args := [d1, d2, d3] }
  | _ => none }
def fnExactUsesInRow : OpenClaim := { program := "ythpbggfajpakkaagreat", sum := "3038991e1ef7e44ef11a085d4cddb626642d9afc1c60e2777be1fdbf1b31a14e", func := "loop.example/g00964/laws.FnExactUsesIn", spec := "fnExactUsesIn", unfollowed := true, recurses := true, loops := true, apart := false }
def FnExactUsesInSaid : Prop := fnExactUsesInRow.holds Tryz.pinned (OpenSpec.ofChange fnExactUsesInSpec)

/-- ITS FALSE NEIGHBOUR: 'it returns false'. Refute it at one input. -/
def fnExactUsesInWrong : ChangeSpec := { name := "fnExactUsesIn", fn := fun _ => fun
  | [d1, d2, d3] => { results := [.lit (.bool false)], args := [d1, d2, d3] }
  | _ => none }
def FnExactUsesInWrongFalsely : Prop := fnExactUsesInRow.holds Tryz.pinned (OpenSpec.ofChange fnExactUsesInWrong)

/- THE SECOND FORM. 'bulk': how many values and letters a reading holds, each counted each time it is reached (what is shared counts as often as it is met; a slice's spare places count too). A statement '..UptoSaid' is the law's where the arguments, and the package variables that the reading takes, are together of bulk at most 1048576: NARROWER than '..Said'. Prove '..Said' where nothing that the law and all that it calls make is longer than what came in: it says more and counts as full. Else prove '..UptoSaid'. A law counts once. -/
mutual
def uptoBulk {H : Type} : DataW H → Nat
  | .lit (.string bytes) => bytes.length + 1
  | .lit _ => 1
  | .nil => 1
  | .ptr d => uptoBulk d + 1
  | .slice elems spare => uptoBulkAll elems + uptoBulkAll spare + 1
  | .agg parts => uptoBulkAll parts + 1
  | .iface _ d => uptoBulk d + 1
  | .map entries => uptoBulkEntries entries + 1
  | .held _ => 1
def uptoBulkAll {H : Type} : List (DataW H) → Nat
  | [] => 0
  | d :: r => uptoBulk d + uptoBulkAll r
def uptoBulkEntries {H : Type} : List (Lit × DataW H) → Nat
  | [] => 0
  | x :: r => uptoBulkEntry x + uptoBulkEntries r
def uptoBulkEntry {H : Type} : Lit × DataW H → Nat
  | (.string bytes, d) => bytes.length + uptoBulk d + 1
  | (_, d) => uptoBulk d + 1
 end
def uptoSmall : (H : Type) → List (DataW H) → Bool := fun _ ds => decide (uptoBulkAll ds ≤ 1048576)
def OpenSpec.upto (s : _root_.Go.ChangeSpec) : _root_.Go.OpenSpec := { _root_.Go.OpenSpec.ofChange s with cond := some uptoSmall }

/-- 'laws.FnExactUsesOf', WHERE WHAT IT READS IS OF BULK AT MOST 1048576: true; the input reads as it did. -/
def fnExactUsesOfUptoRow : OpenClaim := { program := "ythpbggfajpakkaagreat", sum := "3038991e1ef7e44ef11a085d4cddb626642d9afc1c60e2777be1fdbf1b31a14e", func := "loop.example/g00964/laws.FnExactUsesOf", spec := "fnExactUsesOf", unfollowed := true, recurses := true, loops := true, apart := false, narrowed := true }
def FnExactUsesOfUptoSaid : Prop := fnExactUsesOfUptoRow.holds Tryz.pinned (OpenSpec.upto fnExactUsesOfSpec)

/-- 'laws.FnExactBare', WHERE WHAT IT READS IS OF BULK AT MOST 1048576: true; the input reads as it did. -/
def fnExactBareUptoRow : OpenClaim := { program := "ythpbggfajpakkaagreat", sum := "3038991e1ef7e44ef11a085d4cddb626642d9afc1c60e2777be1fdbf1b31a14e", func := "loop.example/g00964/laws.FnExactBare", spec := "fnExactBare", recurses := true, loops := true, apart := false, narrowed := true }
def FnExactBareUptoSaid : Prop := fnExactBareUptoRow.holds Tryz.pinned (OpenSpec.upto fnExactBareSpec)

/-- 'laws.FnExactPlacesOf', WHERE WHAT IT READS IS OF BULK AT MOST 1048576: true; the input reads as it did. -/
def fnExactPlacesOfUptoRow : OpenClaim := { program := "ythpbggfajpakkaagreat", sum := "3038991e1ef7e44ef11a085d4cddb626642d9afc1c60e2777be1fdbf1b31a14e", func := "loop.example/g00964/laws.FnExactPlacesOf", spec := "fnExactPlacesOf", unfollowed := true, recurses := true, loops := true, apart := false, narrowed := true }
def FnExactPlacesOfUptoSaid : Prop := fnExactPlacesOfUptoRow.holds Tryz.pinned (OpenSpec.upto fnExactPlacesOfSpec)

/-- 'laws.FnExactFragsIn', WHERE WHAT IT READS IS OF BULK AT MOST 1048576: true; the input reads as it did. -/
def fnExactFragsInUptoRow : OpenClaim := { program := "ythpbggfajpakkaagreat", sum := "3038991e1ef7e44ef11a085d4cddb626642d9afc1c60e2777be1fdbf1b31a14e", func := "loop.example/g00964/laws.FnExactFragsIn", spec := "fnExactFragsIn", recurses := true, loops := true, apart := false, narrowed := true }
def FnExactFragsInUptoSaid : Prop := fnExactFragsInUptoRow.holds Tryz.pinned (OpenSpec.upto fnExactFragsInSpec)

/-- 'laws.FnExactOpsIn', WHERE WHAT IT READS IS OF BULK AT MOST 1048576: true; the input reads as it did. -/
def fnExactOpsInUptoRow : OpenClaim := { program := "ythpbggfajpakkaagreat", sum := "3038991e1ef7e44ef11a085d4cddb626642d9afc1c60e2777be1fdbf1b31a14e", func := "loop.example/g00964/laws.FnExactOpsIn", spec := "fnExactOpsIn", recurses := true, loops := true, apart := false, narrowed := true }
def FnExactOpsInUptoSaid : Prop := fnExactOpsInUptoRow.holds Tryz.pinned (OpenSpec.upto fnExactOpsInSpec)

/-- 'laws.FnExactUsesIn', WHERE WHAT IT READS IS OF BULK AT MOST 1048576: true; the input reads as it did. -/
def fnExactUsesInUptoRow : OpenClaim := { program := "ythpbggfajpakkaagreat", sum := "3038991e1ef7e44ef11a085d4cddb626642d9afc1c60e2777be1fdbf1b31a14e", func := "loop.example/g00964/laws.FnExactUsesIn", spec := "fnExactUsesIn", unfollowed := true, recurses := true, loops := true, apart := false, narrowed := true }
def FnExactUsesInUptoSaid : Prop := fnExactUsesInUptoRow.holds Tryz.pinned (OpenSpec.upto fnExactUsesInSpec)

end Rows
end Go.Proofs.YthpbggfajpakkaaGreat
