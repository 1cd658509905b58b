/- The library's sort of texts, laid at this program, as a contract. No condition. -/
import Derived.Shelf.Lay
import Derived.Shelf.Sort.Plain
import Derived.Shelf.Slices.In.SortNone
import Derived.Sort.OwnSorted
import Derived.Test.YtkpdlbidadcdjaaSorted
import Derived.Test.YtkpdlbidadcdjaaStrs
set_option linter.unusedVariables false
set_option linter.unusedSimpArgs false
namespace Go.Proofs
open Go.Shelf
shelf_lay Lays.n190 Nm 190 at Try as Try.lays190
end Go.Proofs
namespace Go.Proofs.Ytkpdlbidadcdjaa.Abs
open Go
set_option maxHeartbeats 1000000
set_option maxRecDepth 100000
def srt (xs : List Bs) : List Bs := xs.mergeSort fun x y => decide (x ≤ y)
theorem srt_perm (xs : List Bs) : (srt xs).Perm xs := List.mergeSort_perm xs _
theorem srt_len {xs : List Bs} : (srt xs).length = xs.length := (srt_perm xs).length_eq
theorem blt_iff {x y : Bs} : blt x y ↔ x < y := by unfold blt; rw [bytesLess_eq]; simp
theorem strict_ext : ∀ {a b : List Bs}, Strict a → Strict b → (∀ v, v ∈ a ↔ v ∈ b) → a = b := by
  intro a; induction a with
  | nil => intro b _ _ h; cases b with
    | nil => rfl
    | cons y b => exact absurd ((h y).2 List.mem_cons_self) (by simp)
  | cons x a ih =>
    intro b ha hb h
    cases b with
    | nil => exact absurd ((h x).1 List.mem_cons_self) (by simp)
    | cons y b =>
      unfold Strict at ha hb
      rw [List.pairwise_cons] at ha hb
      have nb : ∀ {u v : Bs}, blt u v → blt v u → False := fun {u v} h1 h2 => by
        have := bl_trans _ _ _ h1 h2
        rw [bl_irrefl] at this; cases this
      have e : x = y := by
        rcases List.mem_cons.1 ((h x).1 List.mem_cons_self) with e | e
        · exact e
        · rcases List.mem_cons.1 ((h y).2 List.mem_cons_self) with e2 | e2
          · exact e2.symm
          · exact (nb (hb.1 x e) (ha.1 y e2)).elim
      subst e
      have nx : ∀ {l : List Bs}, (∀ v ∈ l, blt x v) → x ∉ l := fun {l} hl hm => by
        have := hl x hm
        unfold blt at this; rw [bl_irrefl] at this; cases this
      rw [ih ha.2 hb.2 fun v => ?_]
      constructor
      · intro hv
        rcases List.mem_cons.1 ((h v).1 (List.mem_cons_of_mem _ hv)) with e | e
        · subst e; exact absurd hv (nx ha.1)
        · exact e
      · intro hv
        rcases List.mem_cons.1 ((h v).2 (List.mem_cons_of_mem _ hv)) with e | e
        · subst e; exact absurd hv (nx hb.1)
        · exact e
theorem srt_strict {xs : List Bs} (h : xs.Nodup) : Strict (srt xs) := by
  have h1 : (srt xs).Pairwise fun x y => decide (x ≤ y) = true := by
    apply List.pairwise_mergeSort
    · intro a b c hab hbc
      simp only [decide_eq_true_eq] at *
      exact Std.le_trans hab hbc
    · intro a b
      simp only [Bool.or_eq_true, decide_eq_true_eq]
      exact Std.le_total
  have h2 : (srt xs).Nodup := (srt_perm xs).nodup_iff.2 h
  unfold Strict
  have h3 := h1.and h2
  refine h3.imp fun {x y} hxy => ?_
  obtain ⟨h4, h5⟩ := hxy
  rw [blt_iff]
  simp only [decide_eq_true_eq] at h4
  rcases Std.lt_trichotomy x y with h | h | h
  · exact h
  · exact absurd h h5
  · exact absurd h (Std.not_lt.2 h4)
theorem srt_sortU {xs : List Bs} (h : xs.Nodup) : srt xs = sortU xs :=
  strict_ext (srt_strict h) (sortU_ok _ xs (Nat.le_refl _)).1 fun v => by
    rw [(sortU_ok _ xs (Nat.le_refl _)).2 v]; exact (srt_perm xs).mem_iff
theorem strs_vals {w : World} {Pr : Addr → Prop} {bl : List (List Nat)} : ∀ {xs : List Bs} {vals : List Value} {L : List Nat}, Reps Try.prog w Pr bl (encR .ex (tStrS xs)) vals L → vals = xs.map encStr ∧ L = [] ∧ ∀ x ∈ xs, x.length ≤ maxLen := by
  intro xs; induction xs with
  | nil => intro vals L h; cases h; exact ⟨rfl, rfl, by simp⟩
  | cons x xs ih =>
    intro vals L h
    simp only [tStrS, encR, encL, encT, List.cons_append, List.nil_append] at h
    cases h with
    | cons h1 h2 =>
      obtain ⟨rfl, rfl, h3⟩ := ih h2
      cases h1 with
      | str e hl =>
        rename_i bb
        subst e
        refine ⟨by simp, rfl, ?_⟩
        intro y hy
        rcases List.mem_cons.1 hy with rfl | hy
        · exact hl
        · exact h3 y hy
theorem strs_reps {w : World} {Pr : Addr → Prop} {bl : List (List Nat)} : ∀ {xs : List Bs}, (∀ x ∈ xs, x.length ≤ maxLen) → Reps Try.prog w Pr bl (encR .ex (tStrS xs)) (xs.map encStr) [] := by
  intro xs; induction xs with
  | nil => intro _; exact .nil
  | cons x xs ih =>
    intro h
    simp only [tStrS, encR, encL, encT, List.cons_append, List.nil_append, List.map_cons]
    exact Reps.cons (L := []) (M := []) (.str (by simp) (h x List.mem_cons_self)) (ih fun y hy => h y (List.mem_cons_of_mem _ hy))
theorem cellsStr : Try.prog.cellsOf 9 = 1 := by kernel_rfl
theorem c_Sort (xs : List Bs) (K) (hb : xs.length ≤ 2000000) : CtB Try.prog 29 [.sl (.ex 9) xs.length (encR .ex (tStrS xs))] K (.tup []) K (.sl (.ex 9) xs.length (encR .ex (tStrS (srt xs)))) := by
  refine ⟨⟨_, Try.func29, rfl, by kernel_rfl⟩, ?_⟩
  intro w Pr bl v0 vals La Lk hA hK hcnt hlt
  generalize hc : encR .ex (tStrS xs) = cs at hA
  generalize hn : xs.length = n at hA
  cases hA with
  | cons h1 h2 =>
    cases h2
    cases h1 with
    | slNil =>
      have : xs = [] := List.eq_nil_of_length_eq_zero hn
      subst this
      refine (Any.slices_Sort_string_none Try.lays190 none 0 w).mono ?_
      rintro e w' ⟨rfl, rfl⟩
      refine ⟨_, Pr, [], [], Lk, bl, rfl, .inl rfl, .tup .nil, ?_, hK, ?_, ?_, hlt, ?_⟩
      · simpa [srt, tStrS, encR] using Rep.slNil
      · simpa using hcnt
      · intro x hx; left; simpa using hx
      · exact ⟨rfl, rfl, rfl, Nat.le_refl _, fun _ _ _ => rfl, fun a h => ⟨h, rfl⟩, fun a h => .inl h⟩
    | slEx hcs h1 hh hcap hmax hpos hsz htk hpr =>
      rename_i vs g cap L cur
      subst hc
      obtain ⟨rfl, rfl, hlen⟩ := strs_vals hcs
      rw [cellsStr] at hsz htk
      rw [Nat.mul_one] at hsz htk
      have hgl : g < w.heap.size := (Array.getElem?_eq_some_iff.1 hh).1
      have hH : Go.Sort.Holds encStr w g 0 xs.toArray := by
        intro j hj
        have hj' : j < xs.length := by simpa using hj
        refine ⟨?_, ?_⟩
        · rw [cell_of_row w _ _ _ _ _ hh]
          have : cur.toList[j]? = some (encStr xs[j]) := by
            have h9 : (cur.toList.take n)[j]? = some (encStr xs[j]) := by rw [htk]; simp [hj']
            rw [List.getElem?_take] at h9
            split at h9
            · exact h9
            · cases h9
          simpa [hj'] using this
        · simp [World.frozen?, hh]
      have hs := Any.slices_Sort_string Try.lays190 g 0 cap xs w hH hgl (by omega)
      rw [hn] at hs
      refine hs.mono ?_
      rintro e w' ⟨rfl, m, os, rfl⟩
      have hgb := grownBy_sorted (w := w) (g := g) (n := m) (os := os) (srt xs).toArray
      have hgh := heap_sorted (n := m) (os := os) (srt xs).toArray hh
      have hsame : ∀ a, Pr a → Pr a ∧ _ := fun a ha => ⟨ha, World.cell?_of_block (hgb.block a.block (hlt a ha) (fun e => hpr a ha (by injection e)))⟩
      have hkept : ∀ x, x ∈ Lk ++ bl.flatten → Kept w Pr _ Pr x := fun x hx => by
        have hxl : x < w.heap.size := by
          rcases List.mem_append.1 hx with hx | hx
          · exact hK.own_lt x hx
          · exact hK.box_lt x hx
        refine ⟨hgb.block x hxl (fun e => ?_), fun a ha _ => ha⟩
        have e : x = g := by injection e
        subst e
        have := hcnt x
        have := List.count_pos_iff.2 hx
        simp only [List.count_append, List.append_nil, List.count_cons_self] at *
        omega
      have hperm : ∀ x ∈ srt xs, x.length ≤ maxLen := fun x hx => hlen x ((srt_perm xs).mem_iff.1 hx)
      have hsl : (srt xs).length = n := by rw [srt_len, hn]
      refine ⟨_, Pr, [], [g], Lk, bl, rfl, .inl rfl, .tup .nil, ?_, RepK.kept hsame hK (fun x hx => hkept x (List.mem_append_left _ hx)) (fun x hx => hkept x (List.mem_append_right _ hx)), ?_, ?_, ?_, ?_⟩
      · refine .slEx (L := []) (strs_reps hperm) ?_ hgh hcap hmax hpos ?_ ?_ hpr
        · intro v hv
          rw [List.mem_map] at hv
          obtain ⟨x, _, rfl⟩ := hv
          rfl
        · rw [cellsStr]; simpa [Go.Sort.putCells] using hsz
        · rw [cellsStr, Nat.mul_one, ← hsl]
          exact take_putCells cur (srt xs) (by omega)
      · intro x; have := hcnt x; simpa using this
      · intro x hx; left; simpa using hx
      · exact fun a ha => Nat.lt_of_lt_of_le (hlt a ha) hgb.size
      · exact ⟨hgb.os, hgb.tape, hgb.output, hgb.size, fun b hb hF => hgb.block b hb (fun e => hF (by injection e with e; subst e; simp)), hsame, fun a ha => .inl ha⟩
end Go.Proofs.Ytkpdlbidadcdjaa.Abs
