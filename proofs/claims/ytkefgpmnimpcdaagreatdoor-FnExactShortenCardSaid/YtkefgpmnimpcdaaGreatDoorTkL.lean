/- What Go's functions that replace, split, trim and join texts hand back, as contracts. No condition. -/
import Derived.Test.YtkefgpmnimpcdaaGreatDoorTkP
import Derived.Shelf.Strings.Replace
import Derived.Shelf.Strings.Split
import Derived.Shelf.Strings.SlTrimAscii
import Derived.Shelf.Strings.OnBuilder
import Derived.Test.YtkefgpmnimpcdaaGreatDoorTkC
set_option linter.unusedVariables false
set_option linter.unusedSimpArgs false
namespace Go.Proofs.YtkefgpmnimpcdaaGreatDoor.Abs
open Go Go.RowKit
set_option maxHeartbeats 1000000
set_option maxRecDepth 100000
theorem extra155 : Builder.Extra Tryz.prog Tryz.lays155_ren where
  sizeBuilder := by kernel_rfl
  liesBuilder := by kernel_rfl
  t5 := Tryz.lays155.t5
  a5 := Tryz.lays155.a5
  z5 := Tryz.lays155.z5
  v5 := Tryz.lays155.v5
  infoByte := by kernel_rfl
  cellsByte := by kernel_rfl
  sizeByte := by kernel_rfl
  neB5 := by decide
theorem extra156 : Builder.Extra Tryz.prog Tryz.lays156_ren where
  sizeBuilder := by kernel_rfl
  liesBuilder := by kernel_rfl
  t5 := Tryz.lays155.t5
  a5 := Tryz.lays155.a5
  z5 := Tryz.lays155.z5
  v5 := Tryz.lays155.v5
  infoByte := by kernel_rfl
  cellsByte := by kernel_rfl
  sizeByte := by kernel_rfl
  neB5 := by decide
theorem c_ReplaceAll (s o n : Bs) (hs : s.length ≤ 1000000) (ho : o ≠ []) (hn : n.length ≤ o.length) (hne : (o == n) = false) (K) : Ct Tryz.prog 268 [.str s, .str o, .str n] K (.str (repA o n s)) K := by
  refine ct_lib ⟨_, Tryz.func268, rfl, by kernel_rfl⟩ rfl ?_ K
  intro w Pr vals ht h0
  obtain ⟨b, _, rfl, e1, hl, h1⟩ := h0.str_inv
  obtain ⟨c, _, rfl, e2, hl2, h2⟩ := h1.str_inv
  obtain ⟨d, _, rfl, e3, hl3, h3⟩ := h2.str_inv
  obtain ⟨rfl, _⟩ := h3.nil_inv
  obtain ⟨m, hm⟩ := (ht.2 _ List.mem_cons_self).2
  have h1o : 1 ≤ c.size := by
    rw [str_size, e2]
    cases o with
    | nil => exact absurd rfl ho
    | cons _ _ => simp
  have hcm := Lib.countB_mul_le c h1o b.size b (Nat.le_refl _)
  have hle : Lib.countB b c * d.size ≤ Lib.countB b c * c.size := Nat.mul_le_mul_left _ (by rw [str_size, str_size, e2, e3]; exact hn)
  have hbs : b.size ≤ 1000000 := by rw [str_size, e1]; exact hs
  refine (Any.strings_ReplaceAll Tryz.lays155 extra155 b c d m w (by omega) hm h1o (by omega)).mono ?_
  rintro e w' ⟨rfl, hb⟩
  refine ⟨_, rfl, fun _ _ _ => .str ?_ ?_, hb⟩
  · rw [e1, e2, e3, repA_eq hne]
  · have := repA_len ho hn _ s (Nat.le_refl _); unfold maxLen; omega
theorem c_TrimWs (s : Bs) (K) : Ct Tryz.prog 307 [.str s, .str [32, 9]] K (.str (Lib.trimLeftS s [32, 9])) K := by
  refine ct_lib ⟨_, Tryz.func307, rfl, by kernel_rfl⟩ rfl ?_ K
  intro w Pr vals ht h0
  obtain ⟨b, _, rfl, e1, hl, h1⟩ := h0.str_inv
  obtain ⟨c, _, rfl, e2, hl2, h2⟩ := h1.str_inv
  obtain ⟨rfl, _⟩ := h2.nil_inv
  have h116 : (Tryz.prog.info? (Tryz.lays161_ren.t 116)).map (fun i => (i.zero, i.size)) = some (some (.agg (Array.replicate 256 (.bool false))), 256) := by kernel_rfl
  refine (Any.strings_TrimLeft_laid Tryz.lays161 h116 b c w (by rw [str_size, e2]; decide) ?_).mono ?_
  · intro j x hx
    rw [e2] at hx
    have : x ∈ ([32, 9] : Bs) := List.mem_of_getElem? hx
    simp at this
    rcases this with rfl | rfl <;> decide
  · rintro e w' ⟨rfl, hb⟩
    refine ⟨_, rfl, fun _ _ _ => .str (by rw [e1, e2]) ?_, hb⟩
    have := trim_ind s; omega
/-- A library's new slice, its caller's own. -/
theorem ct_libX {P : Program} {f : FuncId} {args : List AC} {e : TypeId} {n : Nat} {cells : List AC} (hfn : ∃ fn, P.funcs[f]? = some fn ∧ fn.body.isSome = true ∧ (fn.name == "runtime.NumGoroutine") = false) (hs : args.all scalar = true) (hce : P.cellsOf e = 1) (hn : n ≤ maxLen)
    (h : ∀ (w : World) (Pr : Addr → Prop) (vals : List Value), Tab w Pr → Reps P w Pr [] args vals [] → Calls P f vals.toArray w fun e' w' => ∃ arr : Array Value, e' = .returned (.slice (some ⟨w.heap.size, 0, none⟩) n n) ∧ w' = w.alloc (.cells arr e) ∧
      (∀ w Pr bl, Reps P w Pr bl cells arr.toList []) ∧ (∀ v ∈ arr.toList, v.oneCell' = true) ∧ arr.size = n) (K : List (List (List AC))) : Ct P f args K (.sl (.ex e) n cells) K := by
  refine ⟨hfn, ?_⟩
  intro w Pr bl vals La Lk hA hK hcnt hlt htab
  obtain ⟨rfl, hA0⟩ := scalars_inv hs hA
  refine (h w Pr vals htab hA0).mono ?_
  rintro e' w' ⟨arr, rfl, rfl, hr, h1, hsz⟩
  have hsame : ∀ a, Pr a → Pr a ∧ (w.alloc (.cells arr e)).cell? a = w.cell? a := fun a ha => ⟨ha, World.cell?_alloc_lt w _ a (hlt a ha)⟩
  have hold : ∀ x ∈ Lk ++ bl.flatten, x < w.heap.size := fun x hx => by
    rcases List.mem_append.1 hx with hx | hx
    · exact hK.own_lt x hx
    · exact hK.box_lt x hx
  have hkept : ∀ x, x ∈ Lk ++ bl.flatten → Kept w Pr (w.alloc (.cells arr e)) Pr x := fun x hx => ⟨heap_alloc_old w _ (hold x hx), fun a ha _ => ha⟩
  have hsize : w.heap.size ≤ (w.alloc (.cells arr e)).heap.size := by simp
  refine ⟨_, Pr, [w.heap.size], Lk, bl, rfl, .inl rfl, .slEx (L := []) (hr _ _ _) h1 (heap_alloc_new w _) (Nat.le_refl _) hn (by omega) (by rw [hce, hsz]; omega) (by rw [hce, Nat.mul_one, ← hsz, ← Array.length_toList, List.take_length]) (fun a ha => Nat.ne_of_lt (hlt a ha)),
    RepK.kept hsame hK (fun x hx => hkept x (List.mem_append_left _ hx)) (fun x hx => hkept x (List.mem_append_right _ hx)), fun x => ?_, fun x hx => ?_, fun a ha => Nat.lt_of_lt_of_le (hlt a ha) hsize, ?_⟩
  · have h2 := hcnt x
    simp only [List.nil_append, List.singleton_append, List.append_assoc, List.cons_append, List.count_append] at h2 ⊢
    by_cases hx : x = w.heap.size
    · have h4 : (Lk ++ bl.flatten).count x = 0 := List.count_eq_zero.2 fun hm => by have := hold x hm; omega
      rw [List.count_append] at h4
      subst hx
      simp only [List.count_cons_self, List.count_append]; omega
    · rw [List.count_cons_of_ne (fun e => hx e.symm), List.count_append]; omega
  · rcases List.mem_append.1 hx with hx | hx
    · right; simp at hx; omega
    · exact .inl (by simpa using hx)
  · exact ⟨rfl, rfl, rfl, hsize, fun b hb _ => heap_alloc_old w _ hb, hsame, fun a ha => .inl ha⟩
theorem reps_strs {P : Program} {w : World} {Pr : Addr → Prop} {bl : List (List Nat)} : ∀ xs : List ByteArray, (∀ x ∈ xs, x.data.toList.length ≤ maxLen) → Reps P w Pr bl ((xs.map (·.data.toList)).map AC.str) (xs.map Value.string) [] := by
  intro xs; induction xs with
  | nil => intro _; exact .nil
  | cons x xs ih => intro h; exact Reps.cons (L := []) (M := []) (.str rfl (h x (by simp))) (ih fun y hy => h y (by simp [hy]))
theorem splitK_le {sep : Bs} : ∀ (k : Nat) (s : Bs), ∀ l ∈ Lib.splitK sep 0 k s, l.length ≤ s.length := by
  intro k; induction k with
  | zero => intro s l hl; rw [Lib.splitK] at hl; simp at hl; subst hl; exact Nat.le_refl _
  | succ k ih =>
    intro s l hl
    rw [Lib.splitK] at hl
    split at hl
    · simp at hl; subst hl; exact Nat.le_refl _
    · rcases List.mem_cons.1 hl with rfl | hl
      · rw [List.length_take]; omega
      · have := ih _ l hl; rw [List.length_drop] at this; omega
theorem split_len {sep : Bs} (ho : sep ≠ []) (s : Bs) : (Lib.split s sep).length = Lib.count s sep + 1 := by
  have h := Lib.splitB_all ⟨sep.toArray⟩ (by
    rw [str_size]
    cases sep with
    | nil => exact absurd rfl ho
    | cons _ _ => simp) 0 _ ⟨s.toArray⟩ rfl
  have h2 := congrArg List.length (Lib.splitB_data ⟨sep.toArray⟩ 0 (Lib.countB ⟨s.toArray⟩ ⟨sep.toArray⟩) ⟨s.toArray⟩)
  rw [List.length_map, h] at h2
  have hc : Lib.countB ⟨s.toArray⟩ ⟨sep.toArray⟩ = Lib.count s sep := by unfold Lib.countB; rfl
  rw [hc] at h2
  exact h2.symm
theorem c_Split (s p : Bs) (hs : s.length ≤ 1000000) (ho : p ≠ []) (K) : Ct Tryz.prog 306 [.str s, .str p] K (.sl (.ex 9) (Lib.split s p).length ((Lib.split s p).map AC.str)) K := by
  have hcl : Lib.count s p ≤ s.length + 1 := Lib.count_le s p
  refine ct_libX ⟨_, Tryz.func306, rfl, by kernel_rfl⟩ rfl (by kernel_rfl) (by rw [split_len ho]; unfold maxLen; omega) ?_ K
  intro w Pr vals ht h0
  obtain ⟨b, _, rfl, rfl, hl, h1⟩ := h0.str_inv
  obtain ⟨c, _, rfl, rfl, hl2, h2⟩ := h1.str_inv
  obtain ⟨rfl, _⟩ := h2.nil_inv
  obtain ⟨m, hm⟩ := (ht.2 _ List.mem_cons_self).2
  have h1o : 1 ≤ c.size := by
    rw [str_size]
    cases h : c.data.toList with
    | nil => exact absurd h ho
    | cons _ _ => simp
  have hi9 : (Tryz.prog.info? (Tryz.lays146_ren.t 9)).map (fun i => (i.zero, i.size, i.bytes)) = some (some (.string ByteArray.empty), 1, 16) := by kernel_rfl
  refine (Any.strings_Split Tryz.lays146 hi9 b c m w (by rw [str_size]; omega) hm h1o).mono ?_
  rintro e w' ⟨rfl, rfl⟩
  have hlen := Lib.splitB_all c h1o 0 _ b rfl
  have hdat := Lib.splitB_data c 0 (Lib.countB b c) b
  have hcnt : Lib.countB b c + 1 = (Lib.split b.data.toList c.data.toList).length := by rw [split_len ho]
  refine ⟨_, by rw [hcnt], rfl, fun w Pr bl => ?_, ?_, ?_⟩
  · have h := reps_strs (P := Tryz.prog) (w := w) (Pr := Pr) (bl := bl) (Lib.splitB c 0 (Lib.countB b c) b) (fun x hx => by
      have : x.data.toList ∈ Lib.splitK c.data.toList 0 (Lib.countB b c) b.data.toList := by rw [← hdat]; exact List.mem_map_of_mem hx
      have := splitK_le _ _ _ this; omega)
    rw [hdat] at h
    exact h
  · intro v hv
    obtain ⟨x, _, rfl⟩ := List.mem_map.1 (by simpa using hv)
    rfl
  · rw [List.size_toArray, List.length_map, hlen, hcnt]
theorem reps_strs_inv {P : Program} {w : World} {Pr : Addr → Prop} {bl : List (List Nat)} : ∀ {C : List Bs} {vals : List Value} {L : List Nat}, Reps P w Pr bl (C.map AC.str) vals L → ∃ xs : List ByteArray, vals = xs.map Value.string ∧ xs.map (·.data.toList) = C := by
  intro C; induction C with
  | nil => intro vals L h; obtain ⟨rfl, _⟩ := Reps.nil_inv h; exact ⟨[], rfl, rfl⟩
  | cons c C ih =>
    intro vals L h
    rw [List.map_cons] at h
    obtain ⟨b, vs, rfl, e, _, h2⟩ := h.str_inv
    obtain ⟨xs, rfl, rfl⟩ := ih h2
    exact ⟨b :: xs, rfl, by simp [e]⟩
theorem c_Join (C : List Bs) (p : Bs) (hC : C.length ≤ 1000000) (hj : (Lib.join C p).length ≤ 100000000000) (K) : Ct Tryz.prog 248 [.sl .no C.length (C.map AC.str), .str p] K (.str (Lib.join C p)) K := by
  have hfn : ∃ fn, Tryz.prog.funcs[248]? = some fn ∧ fn.body.isSome = true ∧ (fn.name == "runtime.NumGoroutine") = false := ⟨_, Tryz.func248, rfl, by kernel_rfl⟩
  refine ⟨hfn, ?_⟩
  intro w Pr bl vals La Lk hA hK hcnt hlt htab
  have fin : ∀ {e : Ending} {w' : World} {r : ByteArray}, e = .returned (.string r) → r.data.toList = Lib.join C p → Below w.heap.size w w' → La = [] →
      ∃ v Pr' Lr Lk' bl', e = .returned v ∧ BlExt w.heap.size bl bl' ∧ Rep Tryz.prog w' Pr' bl' (.str (Lib.join C p)) v Lr ∧ RepK Tryz.prog w' Pr' K bl' Lk' ∧
      (∀ x, (Lr ++ Lk' ++ bl'.flatten).count x ≤ 1) ∧ (∀ x ∈ Lr ++ Lk', x ∈ La ++ Lk ∨ w.heap.size ≤ x) ∧ (∀ a, Pr' a → a.block < w'.heap.size) ∧
      Since w Pr (La ++ Lk ++ bl.flatten) w' Pr' := by
    rintro e w' r rfl hr hb rfl
    have hsame : ∀ a, Pr a → Pr a ∧ w'.cell? a = w.cell? a := fun a ha => ⟨ha, World.cell?_of_block (hb.block a.block (hlt a ha))⟩
    have hkept : ∀ x, x ∈ Lk ++ bl.flatten → Kept w Pr w' Pr x := fun x hx => by
      have hxl : x < w.heap.size := by
        rcases List.mem_append.1 hx with hx | hx
        · exact hK.own_lt x hx
        · exact hK.box_lt x hx
      exact ⟨hb.block x hxl, fun a ha _ => ha⟩
    refine ⟨_, Pr, [], Lk, bl, rfl, .inl rfl, .str hr (by unfold maxLen; omega), RepK.kept hsame hK (fun x hx => hkept x (List.mem_append_left _ hx)) (fun x hx => hkept x (List.mem_append_right _ hx)), ?_, ?_, ?_, ?_⟩
    · intro x; simpa using hcnt x
    · intro x hx; left; simpa using hx
    · exact fun a ha => Nat.lt_of_lt_of_le (hlt a ha) hb.size
    · exact ⟨hb.os, hb.tape, hb.output, hb.size, fun b hb' _ => hb.block b hb', hsame, fun a ha => .inl ha⟩
  cases hA with
  | cons g1 g2 =>
  obtain ⟨sep, vs, rfl, e2, hl2, g3⟩ := g2.str_inv
  obtain ⟨rfl, rfl⟩ := g3.nil_inv
  generalize hn : C.length = n at g1
  generalize hcs : C.map AC.str = cs at g1
  cases g1 with
  | slNil =>
    obtain rfl : C = [] := List.length_eq_zero_iff.1 hn
    refine (Any.strings_Join_none Tryz.lays156 extra156 none 0 sep w).mono ?_
    rintro e w' ⟨rfl, rfl⟩
    exact fin rfl rfl (Below.refl _ _) rfl
  | slNo h1 h2 h3 h4 h5 =>
    rename_i vals ad cap
    subst hn hcs
    obtain ⟨xs, rfl, rfl⟩ := reps_strs_inv h1
    by_cases hx : xs = []
    · subst hx
      refine (Any.strings_Join_none Tryz.lays156 extra156 (some ad) cap sep w).mono ?_
      rintro e w' ⟨rfl, rfl⟩
      exact fin rfl rfl (Below.refl _ _) rfl
    · obtain ⟨x0, hx0⟩ : ∃ x0, xs[0]? = some x0 := by
        cases xs with
        | nil => exact absurd rfl hx
        | cons a _ => exact ⟨a, rfl⟩
      obtain ⟨bk, o, sp⟩ := ad
      have hc0 := (h3 0 (.string x0) (by rw [List.getElem?_map, hx0]; rfl)).2
      have hbk := World.block_lt_of_cell? w _ hc0
      have hsp : sp = none := by
        cases sp with
        | none => rfl
        | some z =>
          simp only [Addr.add, if_true, World.cell?] at hc0
          split at hc0 <;> simp at hc0
      subst hsp
      have hcells : ∀ (j : Nat) x, xs[j]? = some x → w.cell? ⟨bk, o + j, none⟩ = some (.string x) := fun j x hj => by
        have := (h3 j (.string x) (by rw [List.getElem?_map, hj]; rfl)).2
        unfold Addr.add at this
        split at this
        · rename_i e; subst e; exact this
        · exact this
      have hjo := Any.strings_Join Tryz.lays156 extra156 bk o cap xs sep w hcells hbk (by simp at hC; omega) (by simpa using h4) (by rw [e2]; omega)
      rw [List.length_map]
      refine hjo.mono ?_
      rintro e w' ⟨rfl, hb⟩
      exact fin rfl (by rw [e2]) hb rfl
end Go.Proofs.YtkefgpmnimpcdaaGreatDoor.Abs
/- Lines and blanks ahead of them: the program. No condition. -/
set_option linter.unusedVariables false
set_option linter.unusedSimpArgs false
namespace Go.Proofs.YtkefgpmnimpcdaaGreatDoor.Abs
open Go
set_option maxHeartbeats 2000000
set_option maxRecDepth 100000
theorem c_LinesInI (s : Bs) (hs : s.length ≤ 1000000) (K) : Ct Tryz.prog 289 [.str s] K (.sl (.ex 9) (linesF false s).length ((linesF false s).map AC.str)) K := by
  have h1 := repA_len (old := [13, 10]) (new := [10]) (by simp) (by simp) _ s (Nat.le_refl _)
  have h2 := repA_len (old := [13]) (new := [10]) (by simp) (by simp) _ (repA [13, 10] [10] s) (Nat.le_refl _)
  have hl := linesF_eq _ s (Nat.le_refl _)
  unfold linesI at hl
  rw [← hl]
  refine ct_fn { n0 := 3, ex := [], tk := [4, 6, 8] } Tryz.func289 rfl (by kernel_rfl) (by kernel_rfl) rfl ?_
  simp -implicitDefEqProofs [Tryz.f289]
  refine callK_of (c_ReplaceAll s [13, 10] [10] hs (by simp) (by simp) rfl _) ?_
  simp -implicitDefEqProofs
  refine callK_of (c_ReplaceAll _ [13] [10] (by omega) (by simp) (by simp) rfl _) ?_
  simp -implicitDefEqProofs
  refine callK_of (c_Split _ [10] (by omega) (by simp) _) ?_
  simp -implicitDefEqProofs
theorem c_Indent (l : Bs) (hl : l.length ≤ 1000000000) (K) : Ct Tryz.prog 291 [.str l] K (.int .i64 (indN l : Nat)) K := by
  have h := trim_ind l
  have w : IntKind.i64.wrap ((l.length : Int) - (Lib.trimLeftS l [32, 9]).length) = (indN l : Nat) := by rw [wrap64 (by omega) (by omega)]; omega
  refine ct_fn { n0 := 3, ex := [], tk := [6] } Tryz.func291 rfl (by kernel_rfl) (by kernel_rfl) rfl ?_
  simp -implicitDefEqProofs [Tryz.f291]
  intro _
  refine callK_of (c_TrimWs l _) ?_
  simp -implicitDefEqProofs [w]
theorem c_bare (l : Bs) (hl : l.length ≤ 1000000000) (K) : Ct Tryz.prog 290 [.str l] K (.bool (bareL l)) K := by
  refine ct_fn { n0 := 3, ex := [], tk := [4] } Tryz.func290 rfl (by kernel_rfl) (by kernel_rfl) rfl ?_
  simp -implicitDefEqProofs [Tryz.f290]
  refine callK_of (c_Indent l hl _) ?_
  simp -implicitDefEqProofs [bareL]
  exact fun _ => Int.ofNat_inj.symm
end Go.Proofs.YtkefgpmnimpcdaaGreatDoor.Abs
/- A text in a block without what its lines share: the program. No condition. -/
set_option linter.unusedVariables false
set_option linter.unusedSimpArgs false
namespace Go.Proofs.YtkefgpmnimpcdaaGreatDoor.Abs
open Go
set_option maxHeartbeats 4000000
set_option maxRecDepth 100000
theorem wRun_tabK {P : Program} {fi : FI} {k : St → Prop} {st : St} {ops : Array Oper} (keys : List Nat) (T : List (Nat × AC)) (hkeys : T.map (·.1) = keys) (hm : P.follows .mixedOrders = true) (hck : tabOk fi keys ops.toList = true) (hp : T.all (fun x => pureV x.2) = true)
    (h : wTab P fi T st k T ops.toList) : wRun P fi ops true k st := wRun_tab T hm (by rw [hkeys]; exact hck) hp h
theorem wDo_tab {P : Program} {fi : FI} {T : List (Nat × AC)} {o : Oper} {d : Option Nat} {op : Go.Op} {st : St} {k : AC → St → Prop} (loc : List (Nat × AC)) (hl : T.filter (fun x => (reads o).elem x.1) = loc) (h : wDo P fi true none d op { st with loc := loc } k) : wDo P fi true none d op (tabSt T o st) k := by
  subst hl; exact h
theorem share_strs : ∀ xs : List Bs, shareL (xs.map AC.str) = xs.map AC.str := by
  intro xs; induction xs with
  | nil => rfl
  | cons x xs ih => rw [shareL_eq] at ih ⊢; rw [List.map_cons, List.map_cons, ih]; rfl
theorem le_ownK {ty n : Nat} {cs : List AC} (h : shareL cs = cs) : AC.le (.sl (.of ty) n cs) (.sl .no n cs) := by
  have := @AC.le.share (.sl (.of ty) n cs)
  rwa [share, h] at this
theorem joinL_len {M : Nat} : ∀ E : List Bs, (∀ l ∈ E, l.length ≤ M) → (joinL E).length ≤ E.length * (M + 1) := by
  intro E; induction E with
  | nil => intro _; simp [joinL]
  | cons x r ih =>
    intro h
    have hx := h x (by simp)
    have hr := ih fun l hl => h l (by simp [hl])
    cases r with
    | nil => simp only [joinL, List.length_cons, List.length_nil]; omega
    | cons y r =>
      rw [joinL, List.length_append, List.length_cons]
      · rw [List.length_cons, Nat.add_mul]; omega
      · simp
theorem cutN_max (q : Int) (l : Bs) : max (0 : Int) (min q (indN l : Nat)) = (cutN q l : Nat) := by
  unfold cutN
  split
  · omega
  · split <;> omega
theorem cutN_le (q : Int) (l : Bs) : cutN q l ≤ l.length := by
  have := indN_le l
  unfold cutN
  split
  · omega
  · split <;> omega
theorem c_BlockValue (s : Bs) (hs : s.length ≤ 100000) (K) : Ct Tryz.prog 267 [.str s] K (.str (blockV s)) K := by
  have hll := linesF_len s false
  have hne := linesF_ne s false
  have hLi := fun K => c_LinesInI s (by omega) K
  generalize hR : blockV s = R
  unfold blockV at hR
  generalize linesF false s = L at *
  refine ct_fn { n0 := 8, ex := [11, 12, 13], tk := [9, 18, 25, 31, 50, 51, 52, 62, 76, 84], es := true } Tryz.func267 rfl (by kernel_rfl) (by kernel_rfl) rfl ?_
  simp -implicitDefEqProofs [Tryz.f267]
  refine callK_of (hLi _) ?_
  simp -implicitDefEqProofs
  intro y0
  have hL1 : 1 ≤ L.length := by cases L with | nil => exact absurd rfl hne | cons a b => simp
  generalize hM : leastG (-1) (L.drop 1) = M at hR
  have hL0 : 0 < L.length := by omega
  simp -implicitDefEqProofs [hL0]
  refine ⟨by omega, fun A cp hA => ?_⟩
  have hA : 0 < L.length - 1 → ∃ g, A = some ⟨g, 1, none⟩ ∧ y0 = .slice (some ⟨g, 0, none⟩) (L.length - 1 + 1) (cp + 1) := fun h => hA (by omega)
  obtain ⟨I, hI⟩ : ∃ I : Nat → St → Prop, ∀ m st, I m st ↔ ∃ (i : Nat) (q : Int) (o : Option AC), i ≤ L.length - 1 ∧ m = L.length - 1 - i ∧ -1 ≤ q ∧ q ≤ 1000000 ∧ leastG q (L.drop (i + 1)) = M ∧
    st = { env := [(0, .str s), (2, .str []), (3, .nam y0 (.sl (.ex 9) L.length (L.map AC.str))), (4, .int .i64 q), (11, .als 3 none (.slice A (L.length - 1) cp) none), (12, .int .i64 (L.length - 1 : Nat)), (13, .int .i64 i)], loc := [], K := [] :: K } := ⟨_, fun _ _ => Iff.rfl⟩
  refine wC_loopI I (L.length - 1) ((hI _ _).2 ⟨0, -1, none, by omega, rfl, by omega, by omega, hM, rfl⟩) (St.le_of (by simp) (by simp) rfl (by simp)) ?_
  intro m st hst
  obtain ⟨i, q, o, hi, rfl, hq1, hq2, hq, rfl⟩ := (hI _ _).1 hst
  clear hst
  rcases Nat.lt_or_ge i (L.length - 1) with hlt | hge
  · obtain ⟨g, rfl, rfl⟩ := hA (by omega)
    obtain ⟨l, hx⟩ : ∃ l, L[i + 1]? = some l := ⟨_, List.getElem?_eq_getElem (by omega)⟩
    have hxe : L[i + 1]'(by omega) = l := (List.getElem?_eq_some_iff.1 hx).2
    have hd : L.drop (i + 1) = l :: L.drop (i + 1 + 1) := by rw [List.drop_eq_getElem_cons (by omega), hxe]
    have w1 : IntKind.i64.wrap ((i : Int) + 1) = (i + 1 : Nat) := by rw [wrap64 (by omega) (by omega)]; rfl
    have hlen := hll.2 l (List.mem_of_getElem? hx)
    have hil := indN_le l
    have cI := fun K => c_Indent l (by omega) K
    have cB := fun K => c_bare l (by omega) K
    rw [hd, leastG] at hq
    have ea := strAt hx
    have hlt2 : i < L.length - 1 := hlt
    have hlti : (i : Int) < ((L.length - 1 : Nat) : Int) := by omega
    simp -implicitDefEqProofs [hlt, hlti, hx, hxe, ea]
    refine ⟨by omega, callK_of (cB _) ?_⟩
    have cB2 : bareL l = decide (indN l = l.length) := rfl
    by_cases hb : indN l < l.length
    · have hbf : bareL l = false := by rw [cB2]; exact decide_eq_false (by omega)
      by_cases hq0 : q < 0
      · rw [if_pos ⟨hb, .inl hq0⟩] at hq
        simp -implicitDefEqProofs [hlt, hx, hxe, ea, w1, hbf, hq0]
        refine callK_still (r := .int .i64 0) (fun h => absurd h (by simp)) ?_
        simp -implicitDefEqProofs
        refine callK_of (cI _) ?_
        simp -implicitDefEqProofs [w1]
        exact ⟨L.length - 1 - (i + 1), by omega, _, St.le_of (by simp) (by simp [St.trunc, look, mapV, mapC, killP]) rfl (by simp [St.trunc, mapC]), (hI _ _).2 ⟨i + 1, indN l, none, by omega, rfl, by omega, by omega, hq, rfl⟩⟩
      · have nq0 : 0 ≤ q := by omega
        simp -implicitDefEqProofs [hlt, hx, hxe, ea, w1, hbf, hq0]
        refine callK_still (fun _ => cI _) ?_
        by_cases hlq : (indN l : Int) < q
        · rw [if_pos ⟨hb, .inr hlq⟩] at hq
          simp -implicitDefEqProofs [hlq]
          refine callK_of (cI _) ?_
          simp -implicitDefEqProofs [w1]
          exact ⟨L.length - 1 - (i + 1), by omega, _, St.le_of (by simp) (by simp [St.trunc, look, mapV, mapC, killP]) rfl (by simp [St.trunc, mapC]), (hI _ _).2 ⟨i + 1, indN l, none, by omega, rfl, by omega, by omega, hq, rfl⟩⟩
        · rw [if_neg (fun h => by rcases h.2 with h | h <;> omega)] at hq
          simp -implicitDefEqProofs [hlq, w1]
          exact ⟨L.length - 1 - (i + 1), by omega, _, St.le_of (by simp) (by simp [St.trunc, look, mapV, mapC, killP]) rfl (by simp [St.trunc, mapC]), (hI _ _).2 ⟨i + 1, q, none, by omega, rfl, hq1, hq2, hq, rfl⟩⟩
    · have hbt : bareL l = true := by rw [cB2]; exact decide_eq_true (by omega)
      rw [if_neg (fun h => hb h.1)] at hq
      simp -implicitDefEqProofs [hlt, hx, hxe, ea, w1, hbt]
      refine callK_still (r := .int .i64 0) (fun h => absurd h (by simp)) ?_
      simp -implicitDefEqProofs [w1]
      exact ⟨L.length - 1 - (i + 1), by omega, _, St.le_of (by simp) (by simp [St.trunc, look, mapV, mapC, killP]) rfl (by simp [St.trunc, mapC]), (hI _ _).2 ⟨i + 1, q, none, by omega, rfl, hq1, hq2, hq, rfl⟩⟩
  · have hie : i = L.length - 1 := by omega
    rw [List.drop_eq_nil_of_le (by omega), leastG] at hq
    subst hq
    have hn : ¬ i < L.length - 1 := by omega
    have hni : ¬ (i : Int) < ((L.length - 1 : Nat) : Int) := by omega
    simp -implicitDefEqProofs [hn, hni]
    clear hI hie hi hn hni hA
    clear I
    obtain ⟨J, hJ⟩ : ∃ J : Nat → St → Prop, ∀ m st, J m st ↔ ∃ (j : Nat) (B : List Bs), 1 ≤ j ∧ j ≤ L.length ∧ m = L.length - j ∧ B.length = L.length ∧ B.drop j = L.drop j ∧ B.take j ++ (B.drop j).map (cutF q) = cutL q L ∧
      st = { env := [(0, .str s), (2, .str []), (3, .nam y0 (.sl (.ex 9) L.length (B.map AC.str))), (4, .int .i64 q), (7, .int .i64 j)], loc := [], K := [] :: K } := ⟨_, fun _ _ => Iff.rfl⟩
    refine wC_loopI J (L.length - 1) ((hJ _ _).2 ⟨1, L, by omega, hL1, rfl, rfl, rfl, by cases L with | nil => simp at hL1 | cons a b => simp [cutL], rfl⟩) (St.le_of (by simp) (by simp) rfl (by simp)) ?_
    intro m st hst
    obtain ⟨j, B, hj1, hj, rfl, hBl, hBd, hC, rfl⟩ := (hJ _ _).1 hst
    clear hst
    rcases Nat.lt_or_ge j L.length with hlt | hge
    · obtain ⟨l, hx⟩ : ∃ l, L[j]? = some l := ⟨_, List.getElem?_eq_getElem hlt⟩
      have hd : L.drop j = l :: L.drop (j + 1) := by rw [List.drop_eq_getElem_cons hlt, (List.getElem?_eq_some_iff.1 hx).2]
      have hx2 : B[j]? = some l := by
        have := congrArg (·[0]?) hBd
        simp only [List.getElem?_drop, Nat.add_zero] at this
        rw [this, hx]
      have ea := strAt hx2
      have w1 : IntKind.i64.wrap ((j : Int) + 1) = (j + 1 : Nat) := by rw [wrap64 (by omega) (by omega)]; rfl
      have hlen := hll.2 l (List.mem_of_getElem? hx)
      have hil := indN_le l
      have cI := fun K => c_Indent l (by omega) K
      have hjB : j < B.length := by omega
      have hset : (B.set j (cutF q l)).drop (j + 1) = B.drop (j + 1) := by rw [List.drop_set_of_lt (by omega)]
      have hgo : ∀ st', st' = ({ env := [(0, .str s), (2, .str []), (3, .nam y0 (.sl (.ex 9) L.length ((B.set j (cutF q l)).map AC.str))), (4, .int .i64 q), (7, .int .i64 (j + 1 : Nat))], loc := [], K := [] :: K } : St) → ∃ m', m' < L.length - j ∧ J m' st' := by
        rintro _ rfl
        refine ⟨L.length - (j + 1), by omega, (hJ _ _).2 ⟨j + 1, B.set j (cutF q l), by omega, by omega, rfl, by simp [hBl], ?_, ?_, rfl⟩⟩
        · rw [hset]
          have := congrArg (List.drop 1) hBd
          rwa [List.drop_drop, List.drop_drop] at this
        · rw [hset, ← hC, List.take_add_one, List.take_set_of_le (by omega), List.getElem?_set_self hjB]
          have hd2 : B.drop j = l :: B.drop (j + 1) := by rw [List.drop_eq_getElem_cons hjB, (List.getElem?_eq_some_iff.1 hx2).2]
          rw [hd2]; simp
      have hmx := cutN_max q l
      have hcl := cutN_le q l
      simp -implicitDefEqProofs [hlt, ea, hBl]
      intro _
      refine wRun_tabK [39, 40, 41, 42, 43, 44, 45, 46, 47, 48, 49, 50, 51, 52, 53, 54] [(39, .als 3 none y0 (some L.length)), (40, .int .i64 j), (41, .als 3 none y0 (some L.length)), (42, .int .i64 j), (43, .ept 3 y0 j), (44, .str l), (45, .int .i64 q), (46, .als 3 none y0 (some L.length)), (47, .int .i64 j), (48, .ept 3 y0 j), (49, .str l), (50, .int .i64 (indN l : Nat)), (51, .int .i64 (min q (indN l : Nat))), (52, .int .i64 (cutN q l : Nat)), (53, .str (cutF q l)), (54, .ept 3 y0 j)] rfl rfl (by decide +kernel) rfl ?_
      simp only [wTab]
      refine ⟨?_, ?_, ?_, ?_, ?_, ?_, ?_, ?_, ?_, ?_, ?_, ?_, ?_, ?_, ?_, ?_, ?_⟩
      · refine wDo_tab [] ?_ ?_
        · rfl
        simp -implicitDefEqProofs [hlt, ea, hBl]
      · refine wDo_tab [] ?_ ?_
        · rfl
        simp -implicitDefEqProofs [hlt, ea, hBl]
      · refine wDo_tab [] ?_ ?_
        · rfl
        simp -implicitDefEqProofs [hlt, ea, hBl]
      · refine wDo_tab [] ?_ ?_
        · rfl
        simp -implicitDefEqProofs [hlt, ea, hBl]
      · refine wDo_tab [(41, .als 3 none y0 (some L.length)), (42, .int .i64 j)] ?_ ?_
        · rfl
        simp -implicitDefEqProofs [hlt, ea, hBl]
      · refine wDo_tab [(43, .ept 3 y0 j)] ?_ ?_
        · rfl
        simp -implicitDefEqProofs [hlt, ea, hBl]
        omega
      · refine wDo_tab [] ?_ ?_
        · rfl
        simp -implicitDefEqProofs [hlt, ea, hBl]
      · refine wDo_tab [] ?_ ?_
        · rfl
        simp -implicitDefEqProofs [hlt, ea, hBl]
      · refine wDo_tab [] ?_ ?_
        · rfl
        simp -implicitDefEqProofs [hlt, ea, hBl]
      · refine wDo_tab [(46, .als 3 none y0 (some L.length)), (47, .int .i64 j)] ?_ ?_
        · rfl
        simp -implicitDefEqProofs [hlt, ea, hBl]
      · refine wDo_tab [(48, .ept 3 y0 j)] ?_ ?_
        · rfl
        simp -implicitDefEqProofs [hlt, ea, hBl]
        omega
      · refine wDo_tab [(49, .str l)] ?_ ?_
        · rfl
        simp -implicitDefEqProofs [hlt, ea, hBl]
        refine callK_of (cI _) ?_
        simp -implicitDefEqProofs
      · refine wDo_tab [(45, .int .i64 q), (50, .int .i64 (indN l : Nat))] ?_ ?_
        · rfl
        simp -implicitDefEqProofs [hlt, ea, hBl]
        split <;> omega
      · refine wDo_tab [(51, .int .i64 (min q (indN l : Nat)))] ?_ ?_
        · rfl
        simp -implicitDefEqProofs [hlt, ea, hBl]
        rw [← hmx]
        split <;> omega
      · refine wDo_tab [(44, .str l), (52, .int .i64 (cutN q l : Nat))] ?_ ?_
        · rfl
        simp -implicitDefEqProofs [hlt, ea, hBl]
        exact ⟨hcl, rfl⟩
      · refine wDo_tab [(39, .als 3 none y0 (some L.length)), (40, .int .i64 j)] ?_ ?_
        · rfl
        simp -implicitDefEqProofs [hlt, ea, hBl]
      · refine wDo_tab [(53, .str (cutF q l)), (54, .ept 3 y0 j)] ?_ ?_
        · rfl
        simp -implicitDefEqProofs [hlt, ea, hBl, w1]
        rw [put_str hjB]
        obtain ⟨m', h1, h2⟩ := hgo _ rfl
        exact ⟨by omega, m', h1, _, St.le_of (by simp) (by simp [St.trunc, look, mapV, mapC, killP]) rfl (by simp [St.trunc, mapC]), h2⟩
    · have hjl : j = L.length := by omega
      rw [List.drop_eq_nil_of_le (by omega), List.map_nil, List.append_nil, List.take_of_length_le (by omega)] at hC
      subst hC
      have hn : ¬ j < L.length := by omega
      simp -implicitDefEqProofs [hn, hBl]
      have hCl : (cutL q L).length = L.length := by cases L <;> simp [cutL]
      have hCm : ∀ l ∈ cutL q L, l.length ≤ s.length := by
        intro l hl
        cases L with
        | nil => simp [cutL] at hl
        | cons a b =>
          rcases List.mem_cons.1 hl with rfl | hl
          · exact hll.2 _ (by simp)
          · obtain ⟨x, hx, rfl⟩ := List.mem_map.1 hl
            have := hll.2 x (by simp [hx])
            unfold cutF; rw [List.length_drop]; omega
      have hlL := hll.1
      generalize cutL q L = C at *
      clear hJ hBd hBl hj hj1 hM hn hjl hge hll hLi hne
      clear J
      intros
      generalize hD : C.dropWhile bareL = D at hR
      obtain ⟨F, hF⟩ : ∃ F : Nat → St → Prop, ∀ m st, F m st ↔ ∃ (E : List Bs), E.length ≤ L.length ∧ m = E.length ∧ (∀ l ∈ E, l.length ≤ s.length) ∧ E.dropWhile bareL = D ∧
        st = { env := [(0, .str s), (2, .str []), (3, .sl .no E.length (E.map AC.str))], loc := [], K := [] :: K } := ⟨_, fun _ _ => Iff.rfl⟩
      refine wC_loopF 3 F C.length ((hF _ _).2 ⟨C, by omega, rfl, hCm, hD, rfl⟩) (St.le_of (by simp) (by simp [St.frz, hCl, le_ownK, share_strs]) rfl (by simp [St.frz])) ?_
      intro m st hst
      obtain ⟨E, hEl, rfl, hEm, hED, rfl⟩ := (hF _ _).1 hst
      clear hst
      have hEn : E.length ≤ 100001 := by omega
      cases E with
      | nil =>
        have hDn : D = [] := by rw [← hED]; rfl
        simp -implicitDefEqProofs
        refine callK_still (r := .bool false) (fun h => absurd h (by simp)) ?_
        simp -implicitDefEqProofs
        subst hDn
        obtain ⟨G, hG⟩ : ∃ G : Nat → St → Prop, ∀ m st, G m st ↔ m = 0 ∧ st = { env := [(0, .str s), (2, .str []), (3, .sl .no 0 [])], loc := [], K := [] :: K } := ⟨_, fun _ _ => Iff.rfl⟩
        refine wC_loopI G 0 ((hG _ _).2 ⟨rfl, rfl⟩) (St.le_of (by simp) (by simp) rfl (by simp)) ?_
        intro m st hst
        obtain ⟨rfl, rfl⟩ := (hG _ _).1 hst
        clear hst
        simp -implicitDefEqProofs
        refine callK_still (r := .bool false) (fun h => absurd h (by simp)) ?_
        simp -implicitDefEqProofs
        refine callK_of (c_Join [] [10] (by simp) (by rw [join_eq]; simp [joinL]) _) ?_
        rw [join_eq]
        simp -implicitDefEqProofs
        exact hR.symm
      | cons l E =>
        have hlen := hEm l (by simp)
        have cB := fun K => c_bare l (by omega) K
        have hdw : (l :: E).dropWhile bareL = if bareL l then E.dropWhile bareL else l :: E := List.dropWhile_cons
        rw [hdw] at hED
        simp only [List.length_cons] at hEl
        simp -implicitDefEqProofs
        intro _
        refine callK_still (fun _ => cB _) ?_
        cases hb : bareL l with
        | true =>
          rw [hb, if_pos rfl] at hED
          have htk : (E.map AC.str).take E.length = E.map AC.str := List.take_of_length_le (by simp)
          simp -implicitDefEqProofs [htk]
          exact ⟨by omega, E.length, by omega, _, St.le_of (by simp) (by simp [St.trunc, look, mapV, mapC, killP]) rfl (by simp [St.trunc, mapC]), (hF _ _).2 ⟨E, by omega, rfl, fun l hl => hEm l (by simp [hl]), hED, rfl⟩⟩
        | false =>
          rw [hb, if_neg (by simp)] at hED
          subst hED
          simp -implicitDefEqProofs
          clear hdw hb cB hlen
          obtain ⟨G, hG⟩ : ∃ G : Nat → St → Prop, ∀ m st, G m st ↔ ∃ (E : List Bs), E.length ≤ L.length ∧ m = E.length ∧ (∀ l ∈ E, l.length ≤ s.length) ∧ joinL (dropR bareL E) = R ∧
            st = { env := [(0, .str s), (2, .str []), (3, .sl .no E.length (E.map AC.str))], loc := [], K := [] :: K } := ⟨_, fun _ _ => Iff.rfl⟩
          refine wC_loopI G (E.length + 1) ((hG _ _).2 ⟨l :: E, by simpa using hEl, rfl, hEm, hR, rfl⟩) (St.le_of (by simp) (by simp) rfl (by simp)) ?_
          intro m st hst
          obtain ⟨E2, hEl2, rfl, hEm2, hER, rfl⟩ := (hG _ _).1 hst
          clear hst
          rcases List.eq_nil_or_concat E2 with rfl | ⟨E3, l3, rfl⟩
          · simp -implicitDefEqProofs
            refine callK_still (r := .bool false) (fun h => absurd h (by simp)) ?_
            simp -implicitDefEqProofs
            refine callK_of (c_Join [] [10] (by simp) (by rw [join_eq]; simp [joinL]) _) ?_
            rw [join_eq]
            simp -implicitDefEqProofs
            exact hER.symm
          · rw [List.concat_eq_append] at *
            have hlen3 := hEm2 l3 (by simp)
            have cB := fun K => c_bare l3 (by omega) K
            have hE3l : E3.length + 1 ≤ L.length := by simpa using hEl2
            have w1 : IntKind.i64.wrap (E3.length : Int) = (E3.length : Nat) := by rw [wrap64 (by omega) (by omega)]
            have hdr : (E3.map AC.str ++ [AC.str l3]).drop E3.length = [AC.str l3] := by
              have := List.drop_left (l₁ := E3.map AC.str) (l₂ := [AC.str l3])
              rwa [List.length_map] at this
            have htk : (E3.map AC.str ++ [AC.str l3]).take E3.length = E3.map AC.str := by
              have := List.take_left (l₁ := E3.map AC.str) (l₂ := [AC.str l3])
              rwa [List.length_map] at this
            rw [dropR_snoc] at hER
            simp -implicitDefEqProofs [w1, hdr]
            refine fun _ => ⟨by omega, callK_still (fun _ => cB _) ?_⟩
            cases hb : bareL l3 with
            | true =>
              rw [hb, if_pos rfl] at hER
              simp -implicitDefEqProofs [w1, htk]
              exact fun _ => ⟨by omega, E3.length, by omega, _, St.le_of (by simp) (by simp [St.trunc, look, mapV, mapC, killP]) rfl (by simp [St.trunc, mapC]), (hG _ _).2 ⟨E3, by omega, rfl, fun l hl => hEm2 l (by simp [hl]), hER, rfl⟩⟩
            | false =>
              rw [hb, if_neg (by simp)] at hER
              have hjl : (Lib.join (E3 ++ [l3]) [10]).length ≤ 100000000000 := by
                rw [join_eq]
                have := joinL_len (M := 100000) (E3 ++ [l3]) (fun l hl => by have := hEm2 l hl; omega)
                have h2 : (E3 ++ [l3]).length * (100000 + 1) ≤ 100001 * (100000 + 1) := Nat.mul_le_mul_right _ (by omega)
                omega
              simp -implicitDefEqProofs [w1]
              have hJ := c_Join (E3 ++ [l3]) [10] (by omega) hjl
              simp only [List.length_append, List.length_singleton, List.map_append, List.map_cons, List.map_nil] at hJ
              refine callK_of (hJ _) ?_
              rw [join_eq]
              simp -implicitDefEqProofs
              exact hER.symm
end Go.Proofs.YtkefgpmnimpcdaaGreatDoor.Abs
/- A text in a block: the program. No condition. -/
set_option linter.unusedVariables false
set_option linter.unusedSimpArgs false
namespace Go.Proofs.YtkefgpmnimpcdaaGreatDoor.Abs
open Go
set_option maxHeartbeats 4000000
set_option maxRecDepth 100000
def noCtl (b : UInt8) : Bool := !isCtl b
def rawOf (s : Bs) (j : Nat) : Bs := (s.take (s.length - 3)).drop j
def unq (s : Bs) : Bs := repA [92, 34, 34, 34] [34, 34, 34] s
theorem rawOf_cons {s : Bs} {j : Nat} {b : UInt8} (h : j + 3 < s.length) (hx : s[j]? = some b) : rawOf s j = b :: rawOf s (j + 1) := by
  unfold rawOf
  have h2 : (s.take (s.length - 3))[j]? = some b := by rw [List.getElem?_take, if_pos (by omega)]; exact hx
  exact drop_cons h2
theorem rawOf_nil {s : Bs} {j : Nat} (h : s.length ≤ j + 3) : rawOf s j = [] := List.drop_eq_nil_of_le (by rw [List.length_take]; omega)
theorem rawOf_pre {s p : Bs} {j : Nat} (h : p.isPrefixOf (rawOf s j) = true) : p.isPrefixOf (s.drop j) = true := by
  rw [List.isPrefixOf_iff_prefix] at h ⊢
  refine h.trans ?_
  unfold rawOf
  rw [List.drop_take]
  exact List.take_prefix _ _
theorem three_at {s : Bs} {i : Nat} (h : three s i = true) : s[i]? = some 34 ∧ s[i + 1]? = some 34 ∧ s[i + 2]? = some 34 := by
  obtain ⟨t, ht⟩ := List.isPrefixOf_iff_prefix.1 h
  have e := fun k : Nat => congrArg (fun l : Bs => l[k]?) ht
  have e0 := e 0; have e1 := e 1; have e2 := e 2
  simp only [List.getElem?_drop] at e0 e1 e2
  exact ⟨by simpa using e0.symm, by simpa using e1.symm, by simpa using e2.symm⟩
theorem escB_at {s : Bs} {i : Nat} (h : escThree s i = true) : s[i]? = some 92 ∧ three s (i + 1) = true := by
  rw [escThree_eq, Bool.and_eq_true, decide_eq_true_eq] at h; exact h
theorem getB_of {s : Bs} {i : Nat} {b : UInt8} (h : s[i]? = some b) : s.getD i 0 = b := by rw [List.getD_eq_getElem?_getD, h]; rfl
theorem rawG_q {s : Bs} {m i : Nat} (hl : i + 3 < s.length) (h : s[i]? = some 34) : rawG (m + 1) s i = (rawG m s (i + 1)).map (34 :: ·) := by
  have he : escThree s i = false := by
    cases h2 : escThree s i with
    | false => rfl
    | true => have := (escB_at h2).1; rw [h] at this; cases this
  rw [rawG, if_neg (by omega), getB_of h, he, if_neg (by decide), if_neg (by simp)]
theorem rawG_eq (s : Bs) : ∀ (n j m : Nat), blkG n s j = s.length → s.length - j ≤ m →
    rawG (m + 1) s j = if (rawOf s j).all noCtl then some (unq (rawOf s j)) else none := by
  intro n; induction n with
  | zero => intro j m h; simp only [blkG] at h; omega
  | succ n ih =>
    intro j m h hm
    rw [blkG] at h
    by_cases c0 : s.length ≤ j
    · rw [if_pos c0] at h; omega
    rw [if_neg c0] at h
    by_cases c1 : escThree s j = true
    · rw [if_pos c1] at h
      have hb := blkG_bnd s n (j + 4)
      have hl : j + 7 ≤ s.length := by omega
      obtain ⟨h0, h3⟩ := escB_at c1
      obtain ⟨h1, h2, h3⟩ := three_at h3
      obtain ⟨m, rfl⟩ : ∃ m', m = m' + 4 := ⟨m - 4, by omega⟩
      have hr := ih (j + 4) m h (by omega)
      rw [rawG, if_neg (by omega), getB_of h0, if_neg (by decide), if_pos c1, rawG_q (by omega) h1, rawG_q (by omega) h2, rawG_q (by omega) h3]
      rw [show j + 1 + 1 + 1 + 1 = j + 4 by omega] at *
      rw [hr, rawOf_cons (by omega) h0, rawOf_cons (by omega) h1, rawOf_cons (by omega) h2, rawOf_cons (by omega) h3]
      rw [show j + 1 + 1 + 1 + 1 = j + 4 by omega]
      have hp : ([92, 34, 34, 34] : Bs).isPrefixOf (92 :: 34 :: 34 :: 34 :: rawOf s (j + 4)) = true := by simp [List.isPrefixOf]
      unfold unq
      rw [repA_hit (by simp) hp]
      have c92 : noCtl 92 = true := by decide
      have c34 : noCtl 34 = true := by decide
      simp only [List.all_cons, c92, c34, Bool.true_and, List.length_cons, List.length_nil, List.drop_succ_cons, List.drop_zero]
      cases (rawOf s (j + 4)).all noCtl <;> simp
    · rw [if_neg c1] at h
      have c1 : escThree s j = false := by simpa using c1
      by_cases c2 : three s j = true
      · rw [if_pos c2] at h
        have hj : s.length = j + 3 := by omega
        rw [rawG, if_pos (by omega), rawOf_nil (by omega)]
        unfold unq
        rw [repA_nil (by simp)]; rfl
      · rw [if_neg c2] at h
        have hb := blkG_bnd s n (j + 1)
        have hl : j + 3 < s.length := by omega
        obtain ⟨b, hx⟩ : ∃ b, s[j]? = some b := ⟨_, List.getElem?_eq_getElem (by omega)⟩
        obtain ⟨m, rfl⟩ : ∃ m', m = m' + 1 := ⟨m - 1, by omega⟩
        have hr := ih (j + 1) m h (by omega)
        rw [rawG, if_neg (by omega), getB_of hx, c1, rawOf_cons hl hx, hr]
        have hp : ([92, 34, 34, 34] : Bs).isPrefixOf (b :: rawOf s (j + 1)) = false := by
          rw [← rawOf_cons hl hx]
          cases h3 : ([92, 34, 34, 34] : Bs).isPrefixOf (rawOf s j) with
          | false => rfl
          | true =>
            have h4 : escThree s j = true := rawOf_pre h3
            rw [h4] at c1; cases c1
        unfold unq
        rw [repA_miss (by simp) hp, List.all_cons]
        unfold noCtl
        cases isCtl b with
        | true => rfl
        | false =>
          simp only [Bool.not_false, Bool.true_and, Bool.false_eq_true, if_false]
          split <;> rfl
theorem blk_last (s : Bs) : ∀ (n j : Nat), blkG n s j = s.length → three s (s.length - 3) = true := by
  intro n; induction n with
  | zero => intro j h; simp only [blkG] at h; omega
  | succ n ih =>
    intro j h
    rw [blkG] at h
    split at h
    · omega
    · split at h
      · exact ih _ h
      · split at h
        · next h3 =>
          have : s.length - 3 = j := by omega
          rw [this]; exact h3
        · exact ih _ h
theorem all_split {s : Bs} (h6 : 6 ≤ s.length) (h0 : three s 0 = true) (h1 : three s (s.length - 3) = true) : s.all noCtl = (rawOf s 3).all noCtl := by
  have e : s = s.take 3 ++ (rawOf s 3 ++ s.drop (s.length - 3)) := by
    unfold rawOf
    rw [← List.append_assoc]
    have : s.take 3 = (s.take (s.length - 3)).take 3 := by rw [List.take_take]; congr 1; omega
    rw [this, List.take_append_drop, List.take_append_drop]
  have t1 : s.take 3 = [34, 34, 34] := by
    have := (List.prefix_iff_eq_take.1 (List.isPrefixOf_iff_prefix.1 h0)).symm
    simpa using this
  have t2 : s.drop (s.length - 3) = [34, 34, 34] := by
    have h := (List.prefix_iff_eq_take.1 (List.isPrefixOf_iff_prefix.1 h1)).symm
    rw [List.take_of_length_le (by rw [List.length_drop]; simp; omega)] at h
    exact h
  have c34 : noCtl 34 = true := by decide
  conv => lhs; rw [e]
  rw [List.all_append, List.all_append, t1, t2]
  simp [c34]
theorem blkText_eq (s : Bs) : blkText s = if 1000 < s.length ∨ blkEnd s 0 ≠ s.length ∨ textOk s = false ∨ s.all noCtl = false then ([], false) else
    if 200 < (blockV (unq (rawOf s 3))).length then ([], false) else (blockV (unq (rawOf s 3)), true) := by
  unfold blkText
  by_cases h : 1000 < s.length ∨ blkEnd s 0 ≠ s.length ∨ textOk s = false
  · rw [if_pos h, if_pos (by rcases h with h | h | h <;> simp [h])]
  · rw [if_neg h]
    simp only [not_or, ne_eq, Decidable.not_not, Bool.not_eq_false] at h
    obtain ⟨h1, h2, h3⟩ := h
    have hb := blkEnd_bnd s 0
    have ht : three s 0 = true := by
      cases h4 : three s 0 with
      | true => rfl
      | false => unfold blkEnd at h2; rw [h4] at h2; simp at h2
    have hG : blkG (s.length + 1) s 3 = s.length := by unfold blkEnd at h2; rw [ht] at h2; simpa using h2
    have hr := rawG_eq s (s.length + 1) 3 s.length hG (by omega)
    have ha := all_split (by omega) ht (blk_last s _ _ hG)
    rw [hr, ha]
    cases h5 : (rawOf s 3).all noCtl with
    | false => simp
    | true =>
      rw [if_pos rfl, if_neg (by simp [h1, h2, h3])]
theorem unq_len (s : Bs) : (unq s).length ≤ s.length := repA_len (by simp) (by simp) _ s (Nat.le_refl _)
theorem c_BlockText (s : Bs) (hs : s.length ≤ 100000) (K) : Ct Tryz.prog 227 [.str s] K (.tup [.str (blkText s).1, .bool (blkText s).2]) K := by
  have hB := fun K => c_BlockEnd s 0 (by omega) (by omega) K
  have hT := fun K => c_TextOk s K
  have hbn := blkEnd_bnd s 0
  rw [blkText_eq]
  generalize hR : (if 1000 < s.length ∨ blkEnd s 0 ≠ s.length ∨ textOk s = false ∨ s.all noCtl = false then (([], false) : Bs × Bool) else
    if 200 < (blockV (unq (rawOf s 3))).length then ([], false) else (blockV (unq (rawOf s 3)), true)) = R
  refine ct_fn { n0 := 7, ex := [23, 24], tk := [12, 19, 57, 61] } Tryz.func227 rfl (by kernel_rfl) (by kernel_rfl) rfl ?_
  simp -implicitDefEqProofs [Tryz.f227]
  by_cases hl : 1000 < s.length
  · have hl2 : (1000 : Int) < s.length := by omega
    rw [if_pos (.inl hl)] at hR
    subst hR
    simp -implicitDefEqProofs [hl, hl2]
    intro _
    refine callK_still (r := .int .i64 0) (fun h => absurd h (by simp)) ?_
    simp -implicitDefEqProofs
    refine callK_still (r := .bool false) (fun h => absurd h (by simp)) ?_
    simp -implicitDefEqProofs
  · have hl2 : ¬ (1000 : Int) < s.length := by omega
    simp -implicitDefEqProofs [hl, hl2]
    intro _
    refine callK_still (fun _ => hB _) ?_
    generalize hE : blkEnd s 0 = E at *
    by_cases hes : E = s.length
    · subst hes
      simp -implicitDefEqProofs [hl, hl2]
      intro _
      refine callK_still (fun _ => hT _) ?_
      cases htx : textOk s with
      | false =>
        rw [if_pos (.inr (.inr (.inl htx)))] at hR
        subst hR
        simp -implicitDefEqProofs
      | true =>
        have h6 : 6 ≤ s.length := by omega
        have hR : (if s.all noCtl = false then (([], false) : Bs × Bool) else if 200 < (blockV (unq (rawOf s 3))).length then ([], false) else (blockV (unq (rawOf s 3)), true)) = R := by
          rw [← hR]
          by_cases h7 : s.all noCtl = false
          · rw [if_pos h7, if_pos (.inr (.inr (.inr h7)))]
          · rw [if_neg h7]; symm; exact if_neg (by simp [hl, htx, h7])
        have wl : IntKind.i64.wrap ((s.length : Int) - 3) = (s.length : Int) - 3 := wrap64 (by omega) (by omega)
        simp -implicitDefEqProofs
        intro _
        obtain ⟨I, hI⟩ : ∃ I : Nat → St → Prop, ∀ m st, I m st ↔ ∃ i, i ≤ s.length ∧ m = s.length - i ∧ (s.drop i).all noCtl = s.all noCtl ∧
          st = { env := [(0, .str s), (2, .str []), (3, .bool false), (23, .int .i64 s.length), (24, .int .i64 i)], loc := [], K := [] :: K } := ⟨_, fun _ _ => Iff.rfl⟩
        refine wC_loopI I s.length ((hI _ _).2 ⟨0, by omega, rfl, rfl, rfl⟩) (St.le_of (by simp) (by simp) rfl (by simp)) ?_
        intro m st hst
        obtain ⟨i, hi, rfl, hp, rfl⟩ := (hI _ _).1 hst
        clear hst
        rcases Nat.lt_or_ge i s.length with hlt | hge
        · obtain ⟨b, hx⟩ : ∃ b, s[i]? = some b := ⟨_, List.getElem?_eq_getElem hlt⟩
          have hxe : s[i]'hlt = b := (List.getElem?_eq_some_iff.1 hx).2
          have w1 : IntKind.i64.wrap ((i : Int) + 1) = (i + 1 : Nat) := by rw [wrap64 (by omega) (by omega)]; rfl
          have b9 : (b.toNat : Int) = 9 ↔ b = 9 := u8_eq (c := 9)
          have b10 : (b.toNat : Int) = 10 ↔ b = 10 := u8_eq (c := 10)
          have b13 : (b.toNat : Int) = 13 ↔ b = 13 := u8_eq (c := 13)
          rw [drop_cons hx, List.all_cons] at hp
          simp -implicitDefEqProofs [hlt, hxe, hx, w1, b9, b10, b13]
          refine ⟨fun h1 h2 h3 h4 => ?_, fun h => ?_⟩
          · have hc : noCtl b = false := by
              unfold noCtl isCtl
              rw [decide_eq_true h1, decide_eq_false h2, decide_eq_false h3, decide_eq_false h4]; rfl
            rw [hc] at hp
            rw [if_pos (by rw [← hp]; rfl)] at hR
            subst hR
            exact ⟨rfl, rfl⟩
          · have hc : noCtl b = true := by
              cases hq : noCtl b with
              | true => rfl
              | false =>
                exfalso
                unfold noCtl isCtl at hq
                simp only [Bool.not_eq_false', Bool.and_eq_true, decide_eq_true_eq, Bool.not_eq_true', decide_eq_false_iff_not] at hq
                exact hq.2.2.2 (h hq.1 hq.2.1 hq.2.2.1)
            rw [hc] at hp
            exact ⟨s.length - (i + 1), by omega, _, St.le_of (by simp) (by simp [St.trunc, look, mapV, mapC, killP]) rfl (by simp [St.trunc, mapC]), (hI _ _).2 ⟨i + 1, by omega, rfl, by simpa using hp, rfl⟩⟩
        · have hn : ¬ i < s.length := by omega
          rw [drop_nil hge] at hp
          have hall : s.all noCtl = true := by rw [← hp]; rfl
          rw [if_neg (by rw [hall]; simp)] at hR
          have ht3 : ((s.length : Int) - 3).toNat = s.length - 3 := by omega
          have hraw : (s.take (s.length - 3)).drop 3 = rawOf s 3 := rfl
          have hrl : (rawOf s 3).length ≤ s.length := by unfold rawOf; rw [List.length_drop, List.length_take]; omega
          have hul := unq_len (rawOf s 3)
          simp -implicitDefEqProofs [hn, wl, ht3, hraw]
          refine fun _ => ⟨by omega, callK_of (c_ReplaceAll _ [92, 34, 34, 34] [34, 34, 34] (by omega) (by simp) (by simp) rfl _) ?_⟩
          rw [show repA [92, 34, 34, 34] [34, 34, 34] (rawOf s 3) = unq (rawOf s 3) from rfl]
          simp -implicitDefEqProofs
          refine callK_of (c_BlockValue _ (by omega) _) ?_
          generalize blockV (unq (rawOf s 3)) = V at *
          by_cases h200 : 200 < V.length
          · have h2 : (200 : Int) < V.length := by omega
            rw [if_pos h200] at hR
            subst hR
            simp -implicitDefEqProofs [h200, h2]
          · have h2 : ¬ (200 : Int) < V.length := by omega
            rw [if_neg h200] at hR
            subst hR
            simp -implicitDefEqProofs [h200, h2]
    · rw [if_pos (.inr (.inl hes))] at hR
      subst hR
      simp -implicitDefEqProofs [hes]
      intro _
      refine callK_still (r := .bool false) (fun h => absurd h (by simp)) ?_
      simp -implicitDefEqProofs
end Go.Proofs.YtkefgpmnimpcdaaGreatDoor.Abs
