/-
  NARROWER THAN 'FOR EVERY INPUT', by the rows' own cells (each row's printed sentence says how): FnExactReasonOf: loops · FnExactSameGiven: loops · FnExactSelPlace: loops · FnExactFragAt: loops · FnExactMayUse: loops · FnExactSpreadsIn: loops · FnExactSameShape: loops · FnExactOwnerOf: loops · FnExactReachOf: loops.
  DERIVED. THE GIVEN ROWS OF THIS SEAT. 10 by the template 'for every input the law returns true; each argument reads behind the call as it read before'; 0 by the template 'total and deterministic' (their statements: YtcgkcbmhjbbjmaaTotals.lean).
  GIVEN WITH THE SEED: the statements are not yours to turn. If you find one false, say at which input.
  Laid BY PROGRAM, IN A SANDBOX (cutbox-rows.mjs): the forced cells as the released guide's own fill.sh prints them over the translation 9d65b66ea8f15236… (all of the seat's roots in one cut). By AI agents, Wed Nov 11 2026. No macro, syntax, notation, axiom, sorry.
-/
import Derived.Test.YtcgkcbmhjbbjmaaChecked
import GoSem.Claim
import GoSem.ClaimJoined
import GoSem.ClaimMapViews
import Derived.JoinedTies
import Derived.KernelRfl
namespace Go.Proofs.Ytcgkcbmhjbbjmaa
/- THE CELL 'sum', in the pinned program and in every row, IS THE sha256 OF THE DUMP (.gsa) THAT YtcgkcbmhjbbjmaaProg.lean LOADS. Nothing in Lean hashes anything: it is a label: what it is worth is what the hold of that sum in a sandbox is worth. -/
noncomputable def Try.pinned : Pinned := { name := "ytcgkcbmhjbbjmaa", sum := "9d65b66ea8f15236df36229403d6dce50abcb7b32f96b472e20c7f2cc09a0ba7", checked := Try.checked }
namespace Rows
def none {H : Type} : Left H := { results := [], args := [] }

/-- 'laws.FnExactNameChanges': WHATEVER THE INPUT: true; the input reads as it did. -/
def fnExactNameChangesSpec : ChangeSpec := { name := "fnExactNameChanges", fn := fun _ => fun
  | [d1, d2, d3, d4, d5] => { results := [.lit (.bool true)], args := [d1, d2, d3, d4, d5] }
  | _ => none }
def fnExactNameChangesRow : OpenClaim := { program := "ytcgkcbmhjbbjmaa", sum := "9d65b66ea8f15236df36229403d6dce50abcb7b32f96b472e20c7f2cc09a0ba7", func := "loop.example/g00964/laws.FnExactNameChanges", spec := "fnExactNameChanges", recurses := true, apart := false }
def FnExactNameChangesSaid : Prop := fnExactNameChangesRow.holds Try.pinned (OpenSpec.ofChange fnExactNameChangesSpec)

/-- ITS FALSE NEIGHBOUR: 'it returns false'. Refute it at one input. -/
def fnExactNameChangesWrong : ChangeSpec := { name := "fnExactNameChanges", fn := fun _ => fun
  | [d1, d2, d3, d4, d5] => { results := [.lit (.bool false)], args := [d1, d2, d3, d4, d5] }
  | _ => none }
def FnExactNameChangesWrongFalsely : Prop := fnExactNameChangesRow.holds Try.pinned (OpenSpec.ofChange fnExactNameChangesWrong)

/-- 'laws.FnExactReasonOf': WHATEVER THE INPUT: true; the input reads as it did. -/
def fnExactReasonOfSpec : ChangeSpec := { name := "fnExactReasonOf", fn := fun _ => fun
  | [d] => { results := [.lit (.bool true)], args := [d] }
  | _ => none }
def fnExactReasonOfRow : OpenClaim := { program := "ytcgkcbmhjbbjmaa", sum := "9d65b66ea8f15236df36229403d6dce50abcb7b32f96b472e20c7f2cc09a0ba7", func := "loop.example/g00964/laws.FnExactReasonOf", spec := "fnExactReasonOf", recurses := true, loops := true, apart := false }
def FnExactReasonOfSaid : Prop := fnExactReasonOfRow.holds Try.pinned (OpenSpec.ofChange fnExactReasonOfSpec)

/-- ITS FALSE NEIGHBOUR: 'it returns false'. Refute it at one input. -/
def fnExactReasonOfWrong : ChangeSpec := { name := "fnExactReasonOf", fn := fun _ => fun
  | [d] => { results := [.lit (.bool false)], args := [d] }
  | _ => none }
def FnExactReasonOfWrongFalsely : Prop := fnExactReasonOfRow.holds Try.pinned (OpenSpec.ofChange fnExactReasonOfWrong)

/-- 'laws.FnExactSameGiven': WHATEVER THE INPUT: true; the input reads as it did. -/
def fnExactSameGivenSpec : ChangeSpec := { name := "fnExactSameGiven", fn := fun _ => fun
  | [d1, d2] => { results := [.lit (.bool true)], args := [d1, d2] }
  | _ => none }
def fnExactSameGivenRow : OpenClaim := { program := "ytcgkcbmhjbbjmaa", sum := "9d65b66ea8f15236df36229403d6dce50abcb7b32f96b472e20c7f2cc09a0ba7", func := "loop.example/g00964/laws.FnExactSameGiven", spec := "fnExactSameGiven", unfollowed := true, recurses := true, loops := true, apart := false }
def FnExactSameGivenSaid : Prop := fnExactSameGivenRow.holds Try.pinned (OpenSpec.ofChange fnExactSameGivenSpec)

/-- ITS FALSE NEIGHBOUR: 'it returns false'. Refute it at one input. -/
def fnExactSameGivenWrong : ChangeSpec := { name := "fnExactSameGiven", fn := fun _ => fun
  | [d1, d2] => { results := [.lit (.bool false)], args := [d1, d2] }
  | _ => none }
def FnExactSameGivenWrongFalsely : Prop := fnExactSameGivenRow.holds Try.pinned (OpenSpec.ofChange fnExactSameGivenWrong)

/-- 'laws.FnExactSelPlace': WHATEVER THE INPUT: true; the input reads as it did. -/
def fnExactSelPlaceSpec : ChangeSpec := { name := "fnExactSelPlace", fn := fun _ => fun
  | [d] => { results := [.lit (.bool true)], args := [d] }
  | _ => none }
def fnExactSelPlaceRow : OpenClaim := { program := "ytcgkcbmhjbbjmaa", sum := "9d65b66ea8f15236df36229403d6dce50abcb7b32f96b472e20c7f2cc09a0ba7", func := "loop.example/g00964/laws.FnExactSelPlace", spec := "fnExactSelPlace", recurses := true, loops := true, apart := false }
def FnExactSelPlaceSaid : Prop := fnExactSelPlaceRow.holds Try.pinned (OpenSpec.ofChange fnExactSelPlaceSpec)

/-- ITS FALSE NEIGHBOUR: 'it returns false'. Refute it at one input. -/
def fnExactSelPlaceWrong : ChangeSpec := { name := "fnExactSelPlace", fn := fun _ => fun
  | [d] => { results := [.lit (.bool false)], args := [d] }
  | _ => none }
def FnExactSelPlaceWrongFalsely : Prop := fnExactSelPlaceRow.holds Try.pinned (OpenSpec.ofChange fnExactSelPlaceWrong)

/-- 'laws.FnExactFragAt': WHATEVER THE INPUT: true; the input reads as it did. -/
def fnExactFragAtSpec : ChangeSpec := { name := "fnExactFragAt", fn := fun _ => fun
  | [d1, d2] => { results := [.lit (.bool true)], args := [d1, d2] }
  | _ => none }
def fnExactFragAtRow : OpenClaim := { program := "ytcgkcbmhjbbjmaa", sum := "9d65b66ea8f15236df36229403d6dce50abcb7b32f96b472e20c7f2cc09a0ba7", func := "loop.example/g00964/laws.FnExactFragAt", spec := "fnExactFragAt", unfollowed := true, recurses := true, loops := true, apart := false }
def FnExactFragAtSaid : Prop := fnExactFragAtRow.holds Try.pinned (OpenSpec.ofChange fnExactFragAtSpec)

/-- ITS FALSE NEIGHBOUR: 'it returns false'. Refute it at one input. -/
def fnExactFragAtWrong : ChangeSpec := { name := "fnExactFragAt", fn := fun _ => fun
  | [d1, d2] => { results := [.lit (.bool false)], args := [d1, d2] }
  | _ => none }
def FnExactFragAtWrongFalsely : Prop := fnExactFragAtRow.holds Try.pinned (OpenSpec.ofChange fnExactFragAtWrong)

/-- 'laws.FnExactMayUse': WHATEVER THE INPUT: true; the input reads as it did. -/
def fnExactMayUseSpec : ChangeSpec := { name := "fnExactMayUse", fn := fun _ => fun
  | [d1, d2] => { results := [.lit (.bool true)], args := [d1, d2] }
  | _ => none }
def fnExactMayUseRow : OpenClaim := { program := "ytcgkcbmhjbbjmaa", sum := "9d65b66ea8f15236df36229403d6dce50abcb7b32f96b472e20c7f2cc09a0ba7", func := "loop.example/g00964/laws.FnExactMayUse", spec := "fnExactMayUse", recurses := true, loops := true, apart := false }
def FnExactMayUseSaid : Prop := fnExactMayUseRow.holds Try.pinned (OpenSpec.ofChange fnExactMayUseSpec)

/-- ITS FALSE NEIGHBOUR: 'it returns false'. Refute it at one input. -/
def fnExactMayUseWrong : ChangeSpec := { name := "fnExactMayUse", fn := fun _ => fun
  | [d1, d2] => { results := [.lit (.bool false)], args := [d1, d2] }
  | _ => none }
def FnExactMayUseWrongFalsely : Prop := fnExactMayUseRow.holds Try.pinned (OpenSpec.ofChange fnExactMayUseWrong)

/-- 'laws.FnExactSpreadsIn': WHATEVER THE INPUT: true; the input reads as it did. -/
def fnExactSpreadsInSpec : ChangeSpec := { name := "fnExactSpreadsIn", fn := fun _ => fun
  | [d] => { results := [.lit (.bool true)], args := [d] }
  | _ => none }
def fnExactSpreadsInRow : OpenClaim := { program := "ytcgkcbmhjbbjmaa", sum := "9d65b66ea8f15236df36229403d6dce50abcb7b32f96b472e20c7f2cc09a0ba7", func := "loop.example/g00964/laws.FnExactSpreadsIn", spec := "fnExactSpreadsIn", unfollowed := true, recurses := true, loops := true, apart := false }
def FnExactSpreadsInSaid : Prop := fnExactSpreadsInRow.holds Try.pinned (OpenSpec.ofChange fnExactSpreadsInSpec)

/-- ITS FALSE NEIGHBOUR: 'it returns false'. Refute it at one input. -/
def fnExactSpreadsInWrong : ChangeSpec := { name := "fnExactSpreadsIn", fn := fun _ => fun
  | [d] => { results := [.lit (.bool false)], args := [d] }
  | _ => none }
def FnExactSpreadsInWrongFalsely : Prop := fnExactSpreadsInRow.holds Try.pinned (OpenSpec.ofChange fnExactSpreadsInWrong)

/-- 'laws.FnExactSameShape': WHATEVER THE INPUT: true; the input reads as it did. -/
def fnExactSameShapeSpec : ChangeSpec := { name := "fnExactSameShape", fn := fun _ => fun
  | [d1, d2, d3] => { results := [.lit (.bool true)], args := [d1, d2, d3] }
  | _ => none }
def fnExactSameShapeRow : OpenClaim := { program := "ytcgkcbmhjbbjmaa", sum := "9d65b66ea8f15236df36229403d6dce50abcb7b32f96b472e20c7f2cc09a0ba7", func := "loop.example/g00964/laws.FnExactSameShape", spec := "fnExactSameShape", unfollowed := true, recurses := true, loops := true, apart := false }
def FnExactSameShapeSaid : Prop := fnExactSameShapeRow.holds Try.pinned (OpenSpec.ofChange fnExactSameShapeSpec)

/-- ITS FALSE NEIGHBOUR: 'it returns false'. Refute it at one input. -/
def fnExactSameShapeWrong : ChangeSpec := { name := "fnExactSameShape", fn := fun _ => fun
  | [d1, d2, d3] => { results := [.lit (.bool false)], args := [d1, d2, d3] }
  | _ => none }
def FnExactSameShapeWrongFalsely : Prop := fnExactSameShapeRow.holds Try.pinned (OpenSpec.ofChange fnExactSameShapeWrong)

/-- 'laws.FnExactOwnerOf': WHATEVER THE INPUT: true; the input reads as it did. -/
def fnExactOwnerOfSpec : ChangeSpec := { name := "fnExactOwnerOf", fn := fun _ => fun
  | [d1, d2] => { results := [.lit (.bool true)], args := [d1, d2] }
  | _ => none }
def fnExactOwnerOfRow : OpenClaim := { program := "ytcgkcbmhjbbjmaa", sum := "9d65b66ea8f15236df36229403d6dce50abcb7b32f96b472e20c7f2cc09a0ba7", func := "loop.example/g00964/laws.FnExactOwnerOf", spec := "fnExactOwnerOf", recurses := true, loops := true, apart := false }
def FnExactOwnerOfSaid : Prop := fnExactOwnerOfRow.holds Try.pinned (OpenSpec.ofChange fnExactOwnerOfSpec)

/-- ITS FALSE NEIGHBOUR: 'it returns false'. Refute it at one input. -/
def fnExactOwnerOfWrong : ChangeSpec := { name := "fnExactOwnerOf", fn := fun _ => fun
  | [d1, d2] => { results := [.lit (.bool false)], args := [d1, d2] }
  | _ => none }
def FnExactOwnerOfWrongFalsely : Prop := fnExactOwnerOfRow.holds Try.pinned (OpenSpec.ofChange fnExactOwnerOfWrong)

/-- 'laws.FnExactReachOf': WHATEVER THE INPUT: true; the input reads as it did. -/
def fnExactReachOfSpec : ChangeSpec := { name := "fnExactReachOf", fn := fun _ => fun
  | [d1, d2] => { results := [.lit (.bool true)], args := [d1, d2] }
  | _ => none }
def fnExactReachOfRow : OpenClaim := { program := "ytcgkcbmhjbbjmaa", sum := "9d65b66ea8f15236df36229403d6dce50abcb7b32f96b472e20c7f2cc09a0ba7", func := "loop.example/g00964/laws.FnExactReachOf", spec := "fnExactReachOf", unfollowed := true, recurses := true, loops := true, apart := false }
def FnExactReachOfSaid : Prop := fnExactReachOfRow.holds Try.pinned (OpenSpec.ofChange fnExactReachOfSpec)

/-- ITS FALSE NEIGHBOUR: 'it returns false'. Refute it at one input. -/
def fnExactReachOfWrong : ChangeSpec := { name := "fnExactReachOf", fn := fun _ => fun
  | [d1, d2] => { results := [.lit (.bool false)], args := [d1, d2] }
  | _ => none }
def FnExactReachOfWrongFalsely : Prop := fnExactReachOfRow.holds Try.pinned (OpenSpec.ofChange fnExactReachOfWrong)

/- THE SECOND FORM. 'bulk': how many values and letters a reading holds, each counted each time it is reached (what is shared counts as often as it is met; a slice's spare places count too). A statement '..UptoSaid' is the law's where the arguments, and the package variables that the reading takes, are together of bulk at most 1048576: NARROWER than '..Said'. Prove '..Said' where nothing that the law and all that it calls make is longer than what came in: it says more and counts as full. Else prove '..UptoSaid'. A law counts once. -/
mutual
def uptoBulk {H : Type} : DataW H → Nat
  | .lit (.string bytes) => bytes.length + 1
  | .lit _ => 1
  | .nil => 1
  | .ptr d => uptoBulk d + 1
  | .slice elems spare => uptoBulkAll elems + uptoBulkAll spare + 1
  | .agg parts => uptoBulkAll parts + 1
  | .iface _ d => uptoBulk d + 1
  | .map entries => uptoBulkEntries entries + 1
  | .held _ => 1
def uptoBulkAll {H : Type} : List (DataW H) → Nat
  | [] => 0
  | d :: r => uptoBulk d + uptoBulkAll r
def uptoBulkEntries {H : Type} : List (Lit × DataW H) → Nat
  | [] => 0
  | x :: r => uptoBulkEntry x + uptoBulkEntries r
def uptoBulkEntry {H : Type} : Lit × DataW H → Nat
  | (.string bytes, d) => bytes.length + uptoBulk d + 1
  | (_, d) => uptoBulk d + 1
 end
def uptoSmall : (H : Type) → List (DataW H) → Bool := fun _ ds => decide (uptoBulkAll ds ≤ 1048576)
def OpenSpec.upto (s : _root_.Go.ChangeSpec) : _root_.Go.OpenSpec := { _root_.Go.OpenSpec.ofChange s with cond := some uptoSmall }

/-- 'laws.FnExactNameChanges', WHERE WHAT IT READS IS OF BULK AT MOST 1048576: true; the input reads as it did. -/
def fnExactNameChangesUptoRow : OpenClaim := { program := "ytcgkcbmhjbbjmaa", sum := "9d65b66ea8f15236df36229403d6dce50abcb7b32f96b472e20c7f2cc09a0ba7", func := "loop.example/g00964/laws.FnExactNameChanges", spec := "fnExactNameChanges", recurses := true, apart := false, narrowed := true }
def FnExactNameChangesUptoSaid : Prop := fnExactNameChangesUptoRow.holds Try.pinned (OpenSpec.upto fnExactNameChangesSpec)

/-- 'laws.FnExactReasonOf', WHERE WHAT IT READS IS OF BULK AT MOST 1048576: true; the input reads as it did. -/
def fnExactReasonOfUptoRow : OpenClaim := { program := "ytcgkcbmhjbbjmaa", sum := "9d65b66ea8f15236df36229403d6dce50abcb7b32f96b472e20c7f2cc09a0ba7", func := "loop.example/g00964/laws.FnExactReasonOf", spec := "fnExactReasonOf", recurses := true, loops := true, apart := false, narrowed := true }
def FnExactReasonOfUptoSaid : Prop := fnExactReasonOfUptoRow.holds Try.pinned (OpenSpec.upto fnExactReasonOfSpec)

/-- 'laws.FnExactSameGiven', WHERE WHAT IT READS IS OF BULK AT MOST 1048576: true; the input reads as it did. -/
def fnExactSameGivenUptoRow : OpenClaim := { program := "ytcgkcbmhjbbjmaa", sum := "9d65b66ea8f15236df36229403d6dce50abcb7b32f96b472e20c7f2cc09a0ba7", func := "loop.example/g00964/laws.FnExactSameGiven", spec := "fnExactSameGiven", unfollowed := true, recurses := true, loops := true, apart := false, narrowed := true }
def FnExactSameGivenUptoSaid : Prop := fnExactSameGivenUptoRow.holds Try.pinned (OpenSpec.upto fnExactSameGivenSpec)

/-- 'laws.FnExactSelPlace', WHERE WHAT IT READS IS OF BULK AT MOST 1048576: true; the input reads as it did. -/
def fnExactSelPlaceUptoRow : OpenClaim := { program := "ytcgkcbmhjbbjmaa", sum := "9d65b66ea8f15236df36229403d6dce50abcb7b32f96b472e20c7f2cc09a0ba7", func := "loop.example/g00964/laws.FnExactSelPlace", spec := "fnExactSelPlace", recurses := true, loops := true, apart := false, narrowed := true }
def FnExactSelPlaceUptoSaid : Prop := fnExactSelPlaceUptoRow.holds Try.pinned (OpenSpec.upto fnExactSelPlaceSpec)

/-- 'laws.FnExactFragAt', WHERE WHAT IT READS IS OF BULK AT MOST 1048576: true; the input reads as it did. -/
def fnExactFragAtUptoRow : OpenClaim := { program := "ytcgkcbmhjbbjmaa", sum := "9d65b66ea8f15236df36229403d6dce50abcb7b32f96b472e20c7f2cc09a0ba7", func := "loop.example/g00964/laws.FnExactFragAt", spec := "fnExactFragAt", unfollowed := true, recurses := true, loops := true, apart := false, narrowed := true }
def FnExactFragAtUptoSaid : Prop := fnExactFragAtUptoRow.holds Try.pinned (OpenSpec.upto fnExactFragAtSpec)

/-- 'laws.FnExactMayUse', WHERE WHAT IT READS IS OF BULK AT MOST 1048576: true; the input reads as it did. -/
def fnExactMayUseUptoRow : OpenClaim := { program := "ytcgkcbmhjbbjmaa", sum := "9d65b66ea8f15236df36229403d6dce50abcb7b32f96b472e20c7f2cc09a0ba7", func := "loop.example/g00964/laws.FnExactMayUse", spec := "fnExactMayUse", recurses := true, loops := true, apart := false, narrowed := true }
def FnExactMayUseUptoSaid : Prop := fnExactMayUseUptoRow.holds Try.pinned (OpenSpec.upto fnExactMayUseSpec)

/-- 'laws.FnExactSpreadsIn', WHERE WHAT IT READS IS OF BULK AT MOST 1048576: true; the input reads as it did. -/
def fnExactSpreadsInUptoRow : OpenClaim := { program := "ytcgkcbmhjbbjmaa", sum := "9d65b66ea8f15236df36229403d6dce50abcb7b32f96b472e20c7f2cc09a0ba7", func := "loop.example/g00964/laws.FnExactSpreadsIn", spec := "fnExactSpreadsIn", unfollowed := true, recurses := true, loops := true, apart := false, narrowed := true }
def FnExactSpreadsInUptoSaid : Prop := fnExactSpreadsInUptoRow.holds Try.pinned (OpenSpec.upto fnExactSpreadsInSpec)

/-- 'laws.FnExactSameShape', WHERE WHAT IT READS IS OF BULK AT MOST 1048576: true; the input reads as it did. -/
def fnExactSameShapeUptoRow : OpenClaim := { program := "ytcgkcbmhjbbjmaa", sum := "9d65b66ea8f15236df36229403d6dce50abcb7b32f96b472e20c7f2cc09a0ba7", func := "loop.example/g00964/laws.FnExactSameShape", spec := "fnExactSameShape", unfollowed := true, recurses := true, loops := true, apart := false, narrowed := true }
def FnExactSameShapeUptoSaid : Prop := fnExactSameShapeUptoRow.holds Try.pinned (OpenSpec.upto fnExactSameShapeSpec)

/-- 'laws.FnExactOwnerOf', WHERE WHAT IT READS IS OF BULK AT MOST 1048576: true; the input reads as it did. -/
def fnExactOwnerOfUptoRow : OpenClaim := { program := "ytcgkcbmhjbbjmaa", sum := "9d65b66ea8f15236df36229403d6dce50abcb7b32f96b472e20c7f2cc09a0ba7", func := "loop.example/g00964/laws.FnExactOwnerOf", spec := "fnExactOwnerOf", recurses := true, loops := true, apart := false, narrowed := true }
def FnExactOwnerOfUptoSaid : Prop := fnExactOwnerOfUptoRow.holds Try.pinned (OpenSpec.upto fnExactOwnerOfSpec)

/-- 'laws.FnExactReachOf', WHERE WHAT IT READS IS OF BULK AT MOST 1048576: true; the input reads as it did. -/
def fnExactReachOfUptoRow : OpenClaim := { program := "ytcgkcbmhjbbjmaa", sum := "9d65b66ea8f15236df36229403d6dce50abcb7b32f96b472e20c7f2cc09a0ba7", func := "loop.example/g00964/laws.FnExactReachOf", spec := "fnExactReachOf", unfollowed := true, recurses := true, loops := true, apart := false, narrowed := true }
def FnExactReachOfUptoSaid : Prop := fnExactReachOfUptoRow.holds Try.pinned (OpenSpec.upto fnExactReachOfSpec)

end Rows
end Go.Proofs.Ytcgkcbmhjbbjmaa
