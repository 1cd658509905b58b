/- Bounds of the marks of FragsIn's and OpsIn's results. No condition. -/
import Derived.Test.YthpbggfajpakkaaGreatDocs
import Derived.Test.YthpbggfajpakkaaGreatMarks
set_option linter.unusedVariables false
set_option linter.unusedSimpArgs false
namespace Go.Proofs.YthpbggfajpakkaaGreat.Abs
open Go
set_option maxHeartbeats 1000000
theorem sz_frags : ∀ xs : List DItem, (fragsOf xs).length + szR (tFragS (fragsOf xs)) ≤ xs.length + szR (tItemS xs) := by
  intro xs; induction xs with
  | nil => simp [fragsOf, tFragS, tItemS, szR]
  | cons x xs ih =>
    have hz := szItem x
    simp only [fragsOf, List.filter_cons] at ih ⊢
    split
    · simp only [List.map_cons, List.length_cons, tFragS, tItemS, szR] at ih ⊢; omega
    · simp only [List.length_cons, tItemS, szR] at ih ⊢; omega
theorem sz_ops : ∀ xs : List DItem, (opsOf xs).length + szR (tOpS (opsOf xs)) ≤ xs.length + szR (tItemS xs) := by
  intro xs; induction xs with
  | nil => simp [opsOf, tOpS, tItemS, szR]
  | cons x xs ih =>
    have hz := szItem x
    simp only [opsOf, List.filter_cons] at ih ⊢
    split
    · simp only [List.map_cons, List.length_cons, tOpS, tItemS, szR] at ih ⊢; omega
    · simp only [List.length_cons, tItemS, szR] at ih ⊢; omega
theorem szDoc_eq (d : DDoc) : szL (tDoc d) = d.items.length + szR (tItemS d.items) := by obtain ⟨xs⟩ := d; simp [tDoc, szL, szT]
theorem bnd_FragsIn (d : DDoc) (hs : szL (tDoc d) ≤ 1048576) : cnR (tFragS (fragsIn d)) ≤ 1000000000 := by
  have h1 := cn_FragS (fragsIn d)
  have h2 := sz_frags d.items
  rw [szDoc_eq] at hs
  unfold fragsIn at *; omega
theorem bnd_OpsIn (d : DDoc) (hs : szL (tDoc d) ≤ 1048576) : cnR (tOpS (opsIn d)) ≤ 1000000000 := by
  have h1 := cn_OpS (opsIn d)
  have h2 := sz_ops d.items
  rw [szDoc_eq] at hs
  unfold opsIn at *; omega
end Go.Proofs.YthpbggfajpakkaaGreat.Abs
