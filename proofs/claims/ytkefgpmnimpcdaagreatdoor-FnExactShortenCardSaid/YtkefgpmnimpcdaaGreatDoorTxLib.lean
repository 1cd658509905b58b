/- Go's functions of strings and unicode/utf8 as contracts over the abstract cells. No condition. -/
import Derived.Test.YtkefgpmnimpcdaaGreatDoorLays
import Derived.Shelf.Small.Strs
import Derived.Shelf.Strings.Prefix
import Derived.Shelf.Unicode.ValidAny
import Derived.Test.YtkefgpmnimpcdaaGreatDoorFStr
set_option linter.unusedVariables false
set_option linter.unusedSimpArgs false
namespace Go.Proofs.YtkefgpmnimpcdaaGreatDoor.Abs
open Go Go.RowKit
set_option maxHeartbeats 1000000
set_option maxRecDepth 100000
theorem Reps.str_inv {P : Program} {w : World} {Pr : Addr → Prop} {bl : List (List Nat)} {s : Bs} {cs : List AC} {vals : List Value} {L : List Nat} (h : Reps P w Pr bl (.str s :: cs) vals L) :
    ∃ b vs, vals = .string b :: vs ∧ b.data.toList = s ∧ s.length ≤ maxLen ∧ Reps P w Pr bl cs vs L := by
  cases h with
  | cons h1 h2 => cases h1 with
    | str e hl => exact ⟨_, _, rfl, e, hl, by simpa using h2⟩
theorem Reps.int_inv {P : Program} {w : World} {Pr : Addr → Prop} {bl : List (List Nat)} {k : IntKind} {n : Int} {cs : List AC} {vals : List Value} {L : List Nat} (h : Reps P w Pr bl (.int k n :: cs) vals L) :
    ∃ vs, vals = .int k n :: vs ∧ Reps P w Pr bl cs vs L := by
  cases h with
  | cons h1 h2 => cases h1; exact ⟨_, rfl, by simpa using h2⟩
theorem Reps.bool_inv {P : Program} {w : World} {Pr : Addr → Prop} {bl : List (List Nat)} {b : Bool} {cs : List AC} {vals : List Value} {L : List Nat} (h : Reps P w Pr bl (.bool b :: cs) vals L) :
    ∃ vs, vals = .bool b :: vs ∧ Reps P w Pr bl cs vs L := by
  cases h with
  | cons h1 h2 => cases h1; exact ⟨_, rfl, by simpa using h2⟩
theorem Reps.nil_inv {P : Program} {w : World} {Pr : Addr → Prop} {bl : List (List Nat)} {vals : List Value} {L : List Nat} (h : Reps P w Pr bl [] vals L) : vals = [] ∧ L = [] := by
  cases h; exact ⟨rfl, rfl⟩
theorem scalars_inv {P : Program} {w : World} {Pr : Addr → Prop} {bl : List (List Nat)} : ∀ {args : List AC} {vals : List Value} {L : List Nat}, args.all scalar = true → Reps P w Pr bl args vals L → L = [] ∧ Reps P w Pr [] args vals [] := by
  intro args; induction args with
  | nil => intro vals L _ h; obtain ⟨rfl, rfl⟩ := h.nil_inv; exact ⟨rfl, .nil⟩
  | cons a args ih =>
    intro vals L hs h
    simp only [List.all_cons, Bool.and_eq_true] at hs
    match a, hs with
    | .bool b, hs =>
      obtain ⟨vs, rfl, h2⟩ := h.bool_inv
      obtain ⟨rfl, h3⟩ := ih hs.2 h2
      exact ⟨rfl, Reps.cons (L := []) (M := []) .bool h3⟩
    | .int k n, hs =>
      obtain ⟨vs, rfl, h2⟩ := h.int_inv
      obtain ⟨rfl, h3⟩ := ih hs.2 h2
      exact ⟨rfl, Reps.cons (L := []) (M := []) .int h3⟩
    | .str s, hs =>
      obtain ⟨b, vs, rfl, e1, e2, h2⟩ := h.str_inv
      obtain ⟨rfl, h3⟩ := ih hs.2 h2
      exact ⟨rfl, Reps.cons (L := []) (M := []) (.str e1 e2) h3⟩
/-- A library's contract over scalars. -/
theorem ct_lib {P : Program} {f : FuncId} {args : List AC} {r : AC} (hfn : ∃ fn, P.funcs[f]? = some fn ∧ fn.body.isSome = true ∧ (fn.name == "runtime.NumGoroutine") = false) (hs : args.all scalar = true)
    (h : ∀ (w : World) (Pr : Addr → Prop) (vals : List Value), Tab w Pr → Reps P w Pr [] args vals [] → Calls P f vals.toArray w fun e w' => ∃ v, e = .returned v ∧ (∀ w Pr bl, Rep P w Pr bl r v []) ∧ Below w.heap.size w w') (K : List (List (List AC))) : Ct P f args K r K := by
  refine ⟨hfn, ?_⟩
  intro w Pr bl vals La Lk hA hK hcnt hlt htab
  obtain ⟨rfl, hA0⟩ := scalars_inv hs hA
  refine (h w Pr vals htab hA0).mono ?_
  rintro e w' ⟨v, rfl, hr, hb⟩
  have hsame : ∀ a, Pr a → Pr a ∧ w'.cell? a = w.cell? a := fun a ha => ⟨ha, World.cell?_of_block (hb.block a.block (hlt a ha))⟩
  have hkept : ∀ x, x ∈ Lk ++ bl.flatten → Kept w Pr w' Pr x := fun x hx => by
    have hxl : x < w.heap.size := by
      rcases List.mem_append.1 hx with hx | hx
      · exact hK.own_lt x hx
      · exact hK.box_lt x hx
    exact ⟨hb.block x hxl, fun a ha _ => ha⟩
  refine ⟨v, Pr, [], Lk, bl, rfl, .inl rfl, hr _ _ _, RepK.kept hsame hK (fun x hx => hkept x (List.mem_append_left _ hx)) (fun x hx => hkept x (List.mem_append_right _ hx)), ?_, ?_, ?_, ?_⟩
  · intro x; simpa using hcnt x
  · intro x hx; left; simpa using hx
  · exact fun a ha => Nat.lt_of_lt_of_le (hlt a ha) hb.size
  · exact ⟨hb.os, hb.tape, hb.output, hb.size, fun b hb' _ => hb.block b hb', hsame, fun a ha => .inl ha⟩
theorem utf8_tabs {w : World} {Pr : Addr → Prop} (h : Tab w Pr) : Lib.Utf8Tabs 1 2 w := by
  refine ⟨fun c hc => (h.1 (_, _) ?_).2, fun i hi => ⟨(h.1 (_, _) ?_).2, (h.1 (_, _) ?_).2⟩⟩
  · exact List.mem_append_left _ (List.mem_map.2 ⟨c, List.mem_range.2 hc, rfl⟩)
  · exact List.mem_append_right _ (List.mem_flatMap.2 ⟨i, List.mem_range.2 hi, List.mem_cons_self⟩)
  · exact List.mem_append_right _ (List.mem_flatMap.2 ⟨i, List.mem_range.2 hi, List.mem_cons_of_mem _ List.mem_cons_self⟩)
theorem str_size {b : ByteArray} : b.size = b.data.toList.length := rfl
theorem c_IndexByte (s : Bs) (c : Nat) (hc : c < 256) (K) : Ct Tryz.prog 150 [.str s, .int .u8 c] K (.int .i64 (Lib.indexByte s (UInt8.ofNat c))) K := by
  refine ct_lib ⟨_, Tryz.func150, rfl, by kernel_rfl⟩ rfl ?_ K
  intro w Pr vals ht h0
  obtain ⟨b, _, rfl, rfl, hl, h1⟩ := h0.str_inv
  obtain ⟨_, rfl, h2⟩ := h1.int_inv
  obtain ⟨rfl, _⟩ := h2.nil_inv
  refine (Any.strings_IndexByte Tryz.lays137 _ _ w).mono ?_
  rintro e w' ⟨rfl, rfl⟩
  exact ⟨_, rfl, fun _ _ _ => .int, Below.refl _ _⟩
theorem c_HasPrefix (s p : Bs) (K) : Ct Tryz.prog 148 [.str s, .str p] K (.bool (p.isPrefixOf s)) K := by
  refine ct_lib ⟨_, Tryz.func148, rfl, by kernel_rfl⟩ rfl ?_ K
  intro w Pr vals ht h0
  obtain ⟨b, _, rfl, rfl, hl, h1⟩ := h0.str_inv
  obtain ⟨c, _, rfl, rfl, hl2, h2⟩ := h1.str_inv
  obtain ⟨rfl, _⟩ := h2.nil_inv
  refine (Any.strings_HasPrefix Tryz.lays99 _ _ w).mono ?_
  rintro e w' ⟨rfl, rfl⟩
  exact ⟨_, rfl, fun _ _ _ => .bool, Below.refl _ _⟩
theorem c_TrimPrefix (s p : Bs) (K) : Ct Tryz.prog 232 [.str s, .str p] K (.str (if p.isPrefixOf s then s.drop p.length else s)) K := by
  refine ct_lib ⟨_, Tryz.func232, rfl, by kernel_rfl⟩ rfl ?_ K
  intro w Pr vals ht h0
  obtain ⟨b, _, rfl, rfl, hl, h1⟩ := h0.str_inv
  obtain ⟨c, _, rfl, rfl, hl2, h2⟩ := h1.str_inv
  obtain ⟨rfl, _⟩ := h2.nil_inv
  refine (Any.strings_TrimPrefix Tryz.lays101 _ _ w).mono ?_
  rintro e w' ⟨rfl, rfl⟩
  refine ⟨_, rfl, fun _ _ _ => .str ?_ ?_, Below.refl _ _⟩
  · simp [Lib.trimPrefix, Lib.hasPrefix]
  · split
    · rw [List.length_drop]; omega
    · exact hl
theorem c_ValidString (s : Bs) (K) : Ct Tryz.prog 288 [.str s] K (.bool (Lib.validD s)) K := by
  refine ct_lib ⟨_, Tryz.func288, rfl, by kernel_rfl⟩ rfl ?_ K
  intro w Pr vals ht h0
  obtain ⟨b, _, rfl, rfl, hl, h1⟩ := h0.str_inv
  obtain ⟨rfl, _⟩ := h1.nil_inv
  refine (Any.utf8_ValidString Tryz.lays196 _ w (by rw [str_size]; unfold maxLen at hl; omega) (utf8_tabs ht)).mono ?_
  rintro e w' ⟨rfl, hb⟩
  exact ⟨_, rfl, fun _ _ _ => .bool, hb⟩
end Go.Proofs.YtkefgpmnimpcdaaGreatDoor.Abs
