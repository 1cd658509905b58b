/- Runes as texts: the program's. No condition. -/
import Derived.Shelf.Utf8.AppendRunePlain
import Derived.Test.YtkefgpmnimpcdaaGreatDoorFz
import Derived.Test.YtkefgpmnimpcdaaGreatDoorTxV
import Derived.Test.YtkefgpmnimpcdaaGreatDoorTxC
set_option linter.unusedVariables false
set_option linter.unusedSimpArgs false
namespace Go.Proofs.YtkefgpmnimpcdaaGreatDoor.Abs
open Go Go.RowKit
set_option maxHeartbeats 1000000
set_option maxRecDepth 100000
/-- A row that a library's function made anew, as a contract's result. -/
theorem ct_rowNew {P : Program} {f : FuncId} {args : List AC} {e : TypeId} {n : Nat} {cells : List AC} {xs : List Value} (hfn : ∃ fn, P.funcs[f]? = some fn ∧ fn.body.isSome = true ∧ (fn.name == "runtime.NumGoroutine") = false)
    (hinv : ∀ (w : World) (Pr : Addr → Prop) (bl : List (List Nat)) (vals : List Value) (La : List Nat), Reps P w Pr bl args vals La → La = [] ∧ Reps P w Pr [] args vals [])
    (hc : P.cellsOf e = 1) (hx : ∀ w Pr, Reps P w Pr [] cells xs []) (hone : ∀ v ∈ xs, v.oneCell' = true)
    (h : ∀ (w : World) (Pr : Addr → Prop) (vals : List Value), Tab w Pr → Reps P w Pr [] args vals [] → Calls P f vals.toArray w fun e' w' => ∃ v, e' = .returned v ∧ w'.ownsRow w.heap.size e 1 v n xs ∧ Below w.heap.size w w') (K : List (List (List AC))) : Ct P f args K (.sl (.of e) n cells) K := by
  refine ct_freeze ⟨hfn, ?_⟩
  intro w Pr bl vals La Lk hA hK hcnt hlt htab
  obtain ⟨rfl, hA0⟩ := hinv _ _ _ _ _ hA
  refine (h w Pr vals htab hA0).mono ?_
  rintro e' w' ⟨v, rfl, hr, hb⟩
  have hsame : ∀ a, Pr a → Pr a ∧ w'.cell? a = w.cell? a := fun a ha => ⟨ha, World.cell?_of_block (hb.block a.block (hlt a ha))⟩
  have hkl : ∀ x, x ∈ Lk ++ bl.flatten → x < w.heap.size := fun x hx => by
    rcases List.mem_append.1 hx with hx | hx
    · exact hK.own_lt x hx
    · exact hK.box_lt x hx
  have hkept : ∀ x, x ∈ Lk ++ bl.flatten → Kept w Pr w' Pr x := fun x hx => ⟨hb.block x (hkl x hx), fun a ha _ => ha⟩
  have hK' := RepK.kept hsame hK (fun x hx => hkept x (List.mem_append_left _ hx)) (fun x hx => hkept x (List.mem_append_right _ hx))
  have hsi : ∀ F, Since w Pr F w' Pr := fun F => ⟨hb.os, hb.tape, hb.output, hb.size, fun b hb' _ => hb.block b hb', hsame, fun a ha => .inl ha⟩
  have hlt' : ∀ a, Pr a → a.block < w'.heap.size := fun a ha => Nat.lt_of_lt_of_le (hlt a ha) hb.size
  obtain ⟨hlen, hrow⟩ := hr
  rcases hrow with ⟨rfl, rfl⟩ | ⟨g, cap, cur, rfl, hg, hgg, hn, hcap, hsz, htk⟩
  · have hx0 : xs = [] := List.eq_nil_of_length_eq_zero (by simpa using hlen)
    subst hx0
    have hc0 : cells = [] := by
      have := hx w Pr
      cases this; rfl
    subst hc0
    exact ⟨_, Pr, [], Lk, bl, rfl, .inl rfl, .slNil, hK', by simpa using hcnt, fun x hx => .inl (by simpa using hx), hlt', hsi _⟩
  · refine ⟨_, Pr, [g], Lk, bl, rfl, .inl rfl, .slEx (hx w' Pr) hone hgg hn hcap (by omega) (by rw [hc]; omega) (by rw [hc]; exact htk) (fun a ha e => ?_), hK', ?_, ?_, hlt', hsi _⟩
    · have := hlt a ha; omega
    · intro x
      have h1 := hcnt x
      simp only [List.nil_append] at h1
      simp only [List.cons_append, List.nil_append, List.count_cons]
      by_cases hxg : g = x
      · subst hxg
        have : (Lk ++ bl.flatten).count g = 0 := List.count_eq_zero.2 fun hm => by have := hkl g hm; omega
        rw [this]; simp
      · rw [if_neg (by simpa using hxg)]; omega
    · intro x hx
      simp only [List.cons_append, List.nil_append, List.mem_cons] at hx
      rcases hx with rfl | hx
      · exact .inr hg
      · exact .inl (by simpa using hx)
theorem runeCells_eq {n : Int} (h : scalar? n = true) : Lib.runeCells n = (runeText n).map fun b => Value.int .u8 b.toNat := by
  rw [← encode_runeText h]
  unfold Lib.runeCells Lib.encodeRune
  rw [List.map_map]
  refine List.map_congr_left fun x hx => ?_
  obtain ⟨h1, h2⟩ := Lib.encodeRuneZ_byte n x hx
  simp only [Function.comp]
  congr 1
  have : (x.toNat.toUInt8).toNat = x.toNat % 256 := rfl
  rw [this]; omega
theorem reps_encB {P : Program} {w : World} {Pr : Addr → Prop} {bl : List (List Nat)} : ∀ (l : Bs), Reps P w Pr bl (encB l) (l.map fun b => Value.int .u8 b.toNat) [] := by
  intro l; induction l with
  | nil => exact .nil
  | cons b l ih => exact Reps.cons (L := []) (M := []) .int ih
theorem Reps.slnil_inv {P : Program} {w : World} {Pr : Addr → Prop} {bl : List (List Nat)} {cs : List AC} {vals : List Value} {L : List Nat} (h : Reps P w Pr bl (.sl .nil 0 [] :: cs) vals L) :
    ∃ vs, vals = .slice none 0 0 :: vs ∧ Reps P w Pr bl cs vs L := by
  cases h with
  | cons h1 h2 => cases h1; exact ⟨_, rfl, by simpa using h2⟩
theorem c_AppendRune (n : Int) (h : scalar? n = true) (K) : Ct Tryz.prog 312 [.sl .nil 0 [], .int .i32 n] K (.sl (.of 5) (runeText n).length (encB (runeText n))) K := by
  obtain ⟨h0, h1, h2⟩ := scalar_iff.1 h
  refine ct_rowNew (xs := Lib.runeCells n) ⟨_, Tryz.func312, rfl, by kernel_rfl⟩ ?_ (by simp) (fun w Pr => by rw [runeCells_eq h]; exact reps_encB _) (fun v hv => by rw [runeCells_eq h] at hv; obtain ⟨b, _, rfl⟩ := List.mem_map.1 hv; rfl) ?_ K
  · intro w Pr bl vals La hA
    obtain ⟨vs, rfl, h3⟩ := hA.slnil_inv
    obtain ⟨vs, rfl, h4⟩ := h3.int_inv
    obtain ⟨rfl, rfl⟩ := h4.nil_inv
    exact ⟨rfl, Reps.cons (L := []) (M := []) .slNil (Reps.cons (L := []) (M := []) .int .nil)⟩
  · intro w Pr vals ht hA
    obtain ⟨vs, rfl, h3⟩ := hA.slnil_inv
    obtain ⟨vs, rfl, h4⟩ := h3.int_inv
    obtain ⟨rfl, _⟩ := h4.nil_inv
    refine (Any.utf8_AppendRune_plain Tryz.lays242 (by kernel_rfl) w.heap.size (.slice none 0 0) 0 [] n (by omega) (by omega) w (World.ownsRow_nil _ _ _ _) (by omega) (Nat.le_refl _)).mono ?_
    rintro e' w' ⟨v, rfl, hr, o, hgr⟩
    refine ⟨v, rfl, ?_, ?_⟩
    · rw [runeCells_eq h, List.length_map, Nat.zero_add, List.nil_append] at hr
      rw [runeCells_eq h]; exact hr
    · refine ⟨hgr.os, hgr.tape, hgr.output, ?_, ?_⟩
      · have := hgr.size; simp only [World.alloc] at this ⊢; simp only [Array.size_push] at this; omega
      · intro k hk
        rw [hgr.block k (by simp only [World.alloc, Array.size_push]; omega) (by simp [Value.ownBlock])]
        simp only [World.alloc]
        rw [Array.getElem?_push_lt hk, Array.getElem?_eq_getElem hk]
end Go.Proofs.YtkefgpmnimpcdaaGreatDoor.Abs
