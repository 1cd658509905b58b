/- PRINTED by inv.py: what typed cells are. No condition. -/
import Derived.Test.YtkpdlbidadcdjaaTyp
import Derived.Test.YtkpdlbidadcdjaaFacts
set_option linter.unusedVariables false
set_option linter.unusedSimpArgs false
namespace Go.Proofs.Ytkpdlbidadcdjaa.Abs
open Go
theorem inv_StrS {cells : List AC} (h : Typed Try.prog 26 cells) : ∃ xs : List Bs, cells = [.sl .no xs.length (encR .no (tStrS xs))] := by
  obtain ⟨n, cs, rfl, h1, h2⟩ := typed_slice td26 h
  rw [sz9] at h1 h2
  obtain ⟨xs, h3, h4⟩ := list_of (tr := fun s : Bs => [Tr.str s]) h1 (fun i hi => by
    obtain ⟨s, hs, _⟩ := typed_str td9 (h2 i hi)
    exact ⟨s, by rw [hs]; simp [encL, encT]⟩)
  exact ⟨xs, by rw [h3, h4, tStrS_map]⟩
theorem inv_Value_rec : ∀ N : Nat, (∀ cells, SizeOf.sizeOf cells < N → Typed Try.prog 95 cells → ∃ x : DValue, cells = encL .no (tValue x)) ∧ (∀ cells, SizeOf.sizeOf cells < N → Typed Try.prog 93 cells → ∃ xs : List DValue, cells = [.sl .no xs.length (encR .no (tValueS xs))]) := by
  intro N
  induction N with
  | zero => exact ⟨fun _ h => by omega, fun _ h => by omega⟩
  | succ N ih =>
  refine ⟨fun cells hN h => ?_, fun cells hN h => ?_⟩
  · obtain ⟨hl, hf⟩ := typed_fields td95 h
    rw [sz95] at hl
    obtain ⟨c0, r0, rfl, hl0⟩ := len_cons hl
    obtain ⟨c1, r1, rfl, hl1⟩ := len_cons hl0
    obtain ⟨c2, r2, rfl, hl2⟩ := len_cons hl1
    obtain ⟨c3, r3, rfl, hl3⟩ := len_cons hl2
    obtain rfl := List.eq_nil_of_length_eq_zero hl3
    have g0 := hf (0, 1, 3) (by simp)
    simp only [List.drop_succ_cons, List.drop_zero, List.take_succ_cons, List.take_zero] at g0
    obtain ⟨x0, e0, _⟩ := typed_int td3 g0
    cases e0
    have g1 := hf (1, 1, 9) (by simp)
    simp only [List.drop_succ_cons, List.drop_zero, List.take_succ_cons, List.take_zero] at g1
    obtain ⟨x1, e1, _⟩ := typed_str td9 g1
    cases e1
    have g2 := hf (2, 1, 93) (by simp)
    simp only [List.drop_succ_cons, List.drop_zero, List.take_succ_cons, List.take_zero] at g2
    obtain ⟨x2, e2⟩ := ih.2 _ (by simp at hN ⊢; omega) g2
    cases e2
    have g3 := hf (3, 1, 26) (by simp)
    simp only [List.drop_succ_cons, List.drop_zero, List.take_succ_cons, List.take_zero] at g3
    obtain ⟨x3, e3⟩ := inv_StrS g3
    cases e3
    refine ⟨⟨x0, x1, x2, x3⟩, ?_⟩
    simp only [tValue, encL_app, encL, encT, Md.ow_no, tStrS_len, tIntS_len, tValueS_len]
  · obtain ⟨n, cs, rfl, h1, h2⟩ := typed_slice td93 h
    rw [sz95] at h1 h2
    obtain ⟨xs, h3, h4⟩ := list_of (tr := tValue) h1 (fun i hi => ih.1 _ (by have := szo_take (l := cs.drop (i * 4)) 4; have := szo_drop (l := cs) (i * 4); simp at hN; omega) (h2 i hi))
    exact ⟨xs, by rw [h3, h4, tValueS_map]⟩
theorem inv_Value {cells : List AC} (h : Typed Try.prog 95 cells) : ∃ x : DValue, cells = encL .no (tValue x) := (inv_Value_rec _).1 _ (Nat.lt_succ_self _) h
theorem inv_ValueS {cells : List AC} (h : Typed Try.prog 93 cells) : ∃ xs : List DValue, cells = [.sl .no xs.length (encR .no (tValueS xs))] := (inv_Value_rec _).2 _ (Nat.lt_succ_self _) h
theorem inv_Arg {cells : List AC} (h : Typed Try.prog 97 cells) : ∃ x : DArg, cells = encL .no (tArg x) := by
  obtain ⟨hl, hf⟩ := typed_fields td97 h
  rw [sz97] at hl
  obtain ⟨c0, r0, rfl, hl0⟩ := len_cons hl
  obtain ⟨c1, r1, rfl, hl1⟩ := len_cons hl0
  obtain ⟨c2, r2, rfl, hl2⟩ := len_cons hl1
  obtain ⟨c3, r3, rfl, hl3⟩ := len_cons hl2
  obtain ⟨c4, r4, rfl, hl4⟩ := len_cons hl3
  obtain rfl := List.eq_nil_of_length_eq_zero hl4
  have g0 := hf (0, 1, 9) (by simp)
  simp only [List.drop_succ_cons, List.drop_zero, List.take_succ_cons, List.take_zero] at g0
  obtain ⟨x0, e0, _⟩ := typed_str td9 g0
  cases e0
  have g1 := hf (1, 4, 95) (by simp)
  simp only [List.drop_succ_cons, List.drop_zero, List.take_succ_cons, List.take_zero] at g1
  obtain ⟨x1, e1⟩ := inv_Value g1
  refine ⟨⟨x0, x1⟩, ?_⟩
  simp only [tArg, encL_app, encL, encT, Md.ow_no, tStrS_len, tIntS_len]
  rw [← e1]
  try rfl
  try simp
theorem inv_ArgS {cells : List AC} (h : Typed Try.prog 44 cells) : ∃ xs : List DArg, cells = [.sl .no xs.length (encR .no (tArgS xs))] := by
  obtain ⟨n, cs, rfl, h1, h2⟩ := typed_slice td44 h
  rw [sz97] at h1 h2
  obtain ⟨xs, h3, h4⟩ := list_of (tr := tArg) h1 (fun i hi => inv_Arg (h2 i hi))
  exact ⟨xs, by rw [h3, h4, tArgS_map]⟩
theorem inv_Dir {cells : List AC} (h : Typed Try.prog 91 cells) : ∃ x : DDir, cells = encL .no (tDir x) := by
  obtain ⟨hl, hf⟩ := typed_fields td91 h
  rw [sz91] at hl
  obtain ⟨c0, r0, rfl, hl0⟩ := len_cons hl
  obtain ⟨c1, r1, rfl, hl1⟩ := len_cons hl0
  obtain rfl := List.eq_nil_of_length_eq_zero hl1
  have g0 := hf (0, 1, 9) (by simp)
  simp only [List.drop_succ_cons, List.drop_zero, List.take_succ_cons, List.take_zero] at g0
  obtain ⟨x0, e0, _⟩ := typed_str td9 g0
  cases e0
  have g1 := hf (1, 1, 44) (by simp)
  simp only [List.drop_succ_cons, List.drop_zero, List.take_succ_cons, List.take_zero] at g1
  obtain ⟨x1, e1⟩ := inv_ArgS g1
  cases e1
  refine ⟨⟨x0, x1⟩, ?_⟩
  simp only [tDir, encL_app, encL, encT, Md.ow_no, tStrS_len, tIntS_len, tArgS_len]
theorem inv_DirS {cells : List AC} (h : Typed Try.prog 40 cells) : ∃ xs : List DDir, cells = [.sl .no xs.length (encR .no (tDirS xs))] := by
  obtain ⟨n, cs, rfl, h1, h2⟩ := typed_slice td40 h
  rw [sz91] at h1 h2
  obtain ⟨xs, h3, h4⟩ := list_of (tr := tDir) h1 (fun i hi => inv_Dir (h2 i hi))
  exact ⟨xs, by rw [h3, h4, tDirS_map]⟩
theorem inv_Sel_rec : ∀ N : Nat, (∀ cells, SizeOf.sizeOf cells < N → Typed Try.prog 46 cells → ∃ x : DSel, cells = encL .no (tSel x)) ∧ (∀ cells, SizeOf.sizeOf cells < N → Typed Try.prog 23 cells → ∃ xs : List DSel, cells = [.sl .no xs.length (encR .no (tSelS xs))]) := by
  intro N
  induction N with
  | zero => exact ⟨fun _ h => by omega, fun _ h => by omega⟩
  | succ N ih =>
  refine ⟨fun cells hN h => ?_, fun cells hN h => ?_⟩
  · obtain ⟨hl, hf⟩ := typed_fields td46 h
    rw [sz46] at hl
    obtain ⟨c0, r0, rfl, hl0⟩ := len_cons hl
    obtain ⟨c1, r1, rfl, hl1⟩ := len_cons hl0
    obtain ⟨c2, r2, rfl, hl2⟩ := len_cons hl1
    obtain ⟨c3, r3, rfl, hl3⟩ := len_cons hl2
    obtain ⟨c4, r4, rfl, hl4⟩ := len_cons hl3
    obtain ⟨c5, r5, rfl, hl5⟩ := len_cons hl4
    obtain ⟨c6, r6, rfl, hl6⟩ := len_cons hl5
    obtain rfl := List.eq_nil_of_length_eq_zero hl6
    have g0 := hf (0, 1, 3) (by simp)
    simp only [List.drop_succ_cons, List.drop_zero, List.take_succ_cons, List.take_zero] at g0
    obtain ⟨x0, e0, _⟩ := typed_int td3 g0
    cases e0
    have g1 := hf (1, 1, 9) (by simp)
    simp only [List.drop_succ_cons, List.drop_zero, List.take_succ_cons, List.take_zero] at g1
    obtain ⟨x1, e1, _⟩ := typed_str td9 g1
    cases e1
    have g2 := hf (2, 1, 9) (by simp)
    simp only [List.drop_succ_cons, List.drop_zero, List.take_succ_cons, List.take_zero] at g2
    obtain ⟨x2, e2, _⟩ := typed_str td9 g2
    cases e2
    have g3 := hf (3, 1, 9) (by simp)
    simp only [List.drop_succ_cons, List.drop_zero, List.take_succ_cons, List.take_zero] at g3
    obtain ⟨x3, e3, _⟩ := typed_str td9 g3
    cases e3
    have g4 := hf (4, 1, 44) (by simp)
    simp only [List.drop_succ_cons, List.drop_zero, List.take_succ_cons, List.take_zero] at g4
    obtain ⟨x4, e4⟩ := inv_ArgS g4
    cases e4
    have g5 := hf (5, 1, 40) (by simp)
    simp only [List.drop_succ_cons, List.drop_zero, List.take_succ_cons, List.take_zero] at g5
    obtain ⟨x5, e5⟩ := inv_DirS g5
    cases e5
    have g6 := hf (6, 1, 23) (by simp)
    simp only [List.drop_succ_cons, List.drop_zero, List.take_succ_cons, List.take_zero] at g6
    obtain ⟨x6, e6⟩ := ih.2 _ (by simp at hN ⊢; omega) g6
    cases e6
    refine ⟨⟨x0, x1, x2, x3, x4, x5, x6⟩, ?_⟩
    simp only [tSel, encL_app, encL, encT, Md.ow_no, tStrS_len, tIntS_len, tArgS_len, tDirS_len, tSelS_len]
  · obtain ⟨n, cs, rfl, h1, h2⟩ := typed_slice td23 h
    rw [sz46] at h1 h2
    obtain ⟨xs, h3, h4⟩ := list_of (tr := tSel) h1 (fun i hi => ih.1 _ (by have := szo_take (l := cs.drop (i * 7)) 7; have := szo_drop (l := cs) (i * 7); simp at hN; omega) (h2 i hi))
    exact ⟨xs, by rw [h3, h4, tSelS_map]⟩
theorem inv_Sel {cells : List AC} (h : Typed Try.prog 46 cells) : ∃ x : DSel, cells = encL .no (tSel x) := (inv_Sel_rec _).1 _ (Nat.lt_succ_self _) h
theorem inv_SelS {cells : List AC} (h : Typed Try.prog 23 cells) : ∃ xs : List DSel, cells = [.sl .no xs.length (encR .no (tSelS xs))] := (inv_Sel_rec _).2 _ (Nat.lt_succ_self _) h
theorem inv_Frag {cells : List AC} (h : Typed Try.prog 42 cells) : ∃ x : DFrag, cells = encL .no (tFrag x) := by
  obtain ⟨hl, hf⟩ := typed_fields td42 h
  rw [sz42] at hl
  obtain ⟨c0, r0, rfl, hl0⟩ := len_cons hl
  obtain ⟨c1, r1, rfl, hl1⟩ := len_cons hl0
  obtain ⟨c2, r2, rfl, hl2⟩ := len_cons hl1
  obtain ⟨c3, r3, rfl, hl3⟩ := len_cons hl2
  obtain rfl := List.eq_nil_of_length_eq_zero hl3
  have g0 := hf (0, 1, 9) (by simp)
  simp only [List.drop_succ_cons, List.drop_zero, List.take_succ_cons, List.take_zero] at g0
  obtain ⟨x0, e0, _⟩ := typed_str td9 g0
  cases e0
  have g1 := hf (1, 1, 9) (by simp)
  simp only [List.drop_succ_cons, List.drop_zero, List.take_succ_cons, List.take_zero] at g1
  obtain ⟨x1, e1, _⟩ := typed_str td9 g1
  cases e1
  have g2 := hf (2, 1, 40) (by simp)
  simp only [List.drop_succ_cons, List.drop_zero, List.take_succ_cons, List.take_zero] at g2
  obtain ⟨x2, e2⟩ := inv_DirS g2
  cases e2
  have g3 := hf (3, 1, 23) (by simp)
  simp only [List.drop_succ_cons, List.drop_zero, List.take_succ_cons, List.take_zero] at g3
  obtain ⟨x3, e3⟩ := inv_SelS g3
  cases e3
  refine ⟨⟨x0, x1, x2, x3⟩, ?_⟩
  simp only [tFrag, encL_app, encL, encT, Md.ow_no, tStrS_len, tIntS_len, tDirS_len, tSelS_len]
theorem inv_FragS {cells : List AC} (h : Typed Try.prog 22 cells) : ∃ xs : List DFrag, cells = [.sl .no xs.length (encR .no (tFragS xs))] := by
  obtain ⟨n, cs, rfl, h1, h2⟩ := typed_slice td22 h
  rw [sz42] at h1 h2
  obtain ⟨xs, h3, h4⟩ := list_of (tr := tFrag) h1 (fun i hi => inv_Frag (h2 i hi))
  exact ⟨xs, by rw [h3, h4, tFragS_map]⟩
end Go.Proofs.Ytkpdlbidadcdjaa.Abs
