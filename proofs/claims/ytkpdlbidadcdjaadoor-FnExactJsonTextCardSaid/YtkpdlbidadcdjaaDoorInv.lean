/- PRINTED by inv.py: what typed cells are. No condition. -/
import Derived.Test.YtkpdlbidadcdjaaDoorTyp
import Derived.Test.YtkpdlbidadcdjaaDoorFacts
set_option linter.unusedVariables false
set_option linter.unusedSimpArgs false
namespace Go.Proofs.YtkpdlbidadcdjaaDoor.Abs
open Go
theorem inv_StrS {cells : List AC} (h : Typed Tryd.prog 23 cells) : ∃ xs : List Bs, cells = [.sl .no xs.length (encR .no (tStrS xs))] := by
  obtain ⟨n, cs, rfl, h1, h2⟩ := typed_slice td23 h
  rw [sz9] at h1 h2
  obtain ⟨xs, h3, h4⟩ := list_of (tr := fun s : Bs => [Tr.str s]) h1 (fun i hi => by
    obtain ⟨s, hs, _⟩ := typed_str td9 (h2 i hi)
    exact ⟨s, by rw [hs]; simp [encL, encT]⟩)
  exact ⟨xs, by rw [h3, h4, tStrS_map]⟩
theorem inv_Json_rec : ∀ N : Nat, (∀ cells, SizeOf.sizeOf cells < N → Typed Tryd.prog 25 cells → ∃ x : DJson, cells = encL .no (tJson x)) ∧ (∀ cells, SizeOf.sizeOf cells < N → Typed Tryd.prog 22 cells → ∃ xs : List DJson, cells = [.sl .no xs.length (encR .no (tJsonS xs))]) := by
  intro N
  induction N with
  | zero => exact ⟨fun _ h => by omega, fun _ h => by omega⟩
  | succ N ih =>
  refine ⟨fun cells hN h => ?_, fun cells hN h => ?_⟩
  · obtain ⟨hl, hf⟩ := typed_fields td25 h
    rw [sz25] at hl
    obtain ⟨c0, r0, rfl, hl0⟩ := len_cons hl
    obtain ⟨c1, r1, rfl, hl1⟩ := len_cons hl0
    obtain ⟨c2, r2, rfl, hl2⟩ := len_cons hl1
    obtain ⟨c3, r3, rfl, hl3⟩ := len_cons hl2
    obtain rfl := List.eq_nil_of_length_eq_zero hl3
    have g0 := hf (0, 1, 3) (by simp)
    simp only [List.drop_succ_cons, List.drop_zero, List.take_succ_cons, List.take_zero] at g0
    obtain ⟨x0, e0, _⟩ := typed_int td3 g0
    cases e0
    have g1 := hf (1, 1, 9) (by simp)
    simp only [List.drop_succ_cons, List.drop_zero, List.take_succ_cons, List.take_zero] at g1
    obtain ⟨x1, e1, _⟩ := typed_str td9 g1
    cases e1
    have g2 := hf (2, 1, 22) (by simp)
    simp only [List.drop_succ_cons, List.drop_zero, List.take_succ_cons, List.take_zero] at g2
    obtain ⟨x2, e2⟩ := ih.2 _ (by simp at hN ⊢; omega) g2
    cases e2
    have g3 := hf (3, 1, 23) (by simp)
    simp only [List.drop_succ_cons, List.drop_zero, List.take_succ_cons, List.take_zero] at g3
    obtain ⟨x3, e3⟩ := inv_StrS g3
    cases e3
    refine ⟨⟨x0, x1, x2, x3⟩, ?_⟩
    simp only [tJson, encL_app, encL, encT, Md.ow_no, tStrS_len, tIntS_len, tJsonS_len]
  · obtain ⟨n, cs, rfl, h1, h2⟩ := typed_slice td22 h
    rw [sz25] at h1 h2
    obtain ⟨xs, h3, h4⟩ := list_of (tr := tJson) h1 (fun i hi => ih.1 _ (by have := szo_take (l := cs.drop (i * 4)) 4; have := szo_drop (l := cs) (i * 4); simp at hN; omega) (h2 i hi))
    exact ⟨xs, by rw [h3, h4, tJsonS_map]⟩
theorem inv_Json {cells : List AC} (h : Typed Tryd.prog 25 cells) : ∃ x : DJson, cells = encL .no (tJson x) := (inv_Json_rec _).1 _ (Nat.lt_succ_self _) h
theorem inv_JsonS {cells : List AC} (h : Typed Tryd.prog 22 cells) : ∃ xs : List DJson, cells = [.sl .no xs.length (encR .no (tJsonS xs))] := (inv_Json_rec _).2 _ (Nat.lt_succ_self _) h
end Go.Proofs.YtkpdlbidadcdjaaDoor.Abs
