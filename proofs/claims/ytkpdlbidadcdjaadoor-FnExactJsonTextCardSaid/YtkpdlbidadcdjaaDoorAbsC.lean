/- The relation between an abstract state and a frame with its world; reading and writing slots. No condition. -/
import Derived.Test.YtkpdlbidadcdjaaDoorAbsB
set_option linter.unusedVariables false
namespace Go.Proofs.YtkpdlbidadcdjaaDoor.Abs
open Go

/-- A function's run: its program, how many slots, what is said of them, the world at its entry, what was promised to stay, the blocks that it may touch, the callers' boxes. -/
structure Cx where
  P : Program
  N : Nat
  fi : FI
  w0 : World
  Pr0 : Addr → Prop
  F : List Nat
  bl0 : List (List Nat)
  tab : Tab w0 Pr0

structure SRL (C : Cx) (st : St) (a : Act) (w : World) (Pr : Addr → Prop) (b : List Nat) (xs : List AC) (vs : List Value) (Le Ll Lx Lk : List Nat) : Prop where
  env : RepE C.P w Pr (b :: C.bl0) a.tmps st.env Le
  loc : RepE C.P w Pr (b :: C.bl0) a.tmps st.loc Ll
  reg : Reps C.P w Pr (b :: C.bl0) xs vs Lx
  K : RepK C.P w Pr st.K (b :: C.bl0) Lk
  cnt : ∀ x, Le.count x + Ll.count x + Lx.count x + Lk.count x + (b :: C.bl0).flatten.count x ≤ 1
  new : ∀ x, 0 < Le.count x + Ll.count x + Lx.count x + Lk.count x + (b :: C.bl0).flatten.count x → x ∈ C.F ∨ C.w0.heap.size ≤ x
  kE : (st.env.map (·.1)).Nodup ∧ ∀ k ∈ st.env.map (·.1), C.fi.isVar k = true
  kL : (st.loc.map (·.1)).Nodup ∧ ∀ k ∈ st.loc.map (·.1), C.fi.isVar k = false
  prlt : ∀ p, Pr p → p.block < w.heap.size
  since : Since C.w0 C.Pr0 C.F w Pr
  defers : a.defers = []
  size : a.tmps.size = C.N

def SR (C : Cx) (st : St) (a : Act) (w : World) (Pr : Addr → Prop) (b : List Nat) (xs : List AC) (vs : List Value) : Prop :=
  ∃ Le Ll Lx Lk, SRL C st a w Pr b xs vs Le Ll Lx Lk

section
variable {P : Program} {w w' : World} {Pr Pr' : Addr → Prop} {bl : List (List Nat)} {tmps : Array Value}

theorem RepE.look {env L k v} (h : RepE P w Pr bl tmps env L) (hk : look k env = some v) :
    ∃ x Lv, tmps[k]? = some x ∧ Rep P w Pr bl v x Lv ∧ ∀ y, Lv.count y ≤ L.count y := by
  induction env generalizing L with
  | nil => simp [Abs.look] at hk
  | cons e env ih =>
    obtain ⟨k', v'⟩ := e
    obtain ⟨L1, L2, x, hx, hr, hE, rfl⟩ := h
    simp only [Abs.look] at hk
    split at hk
    · rename_i e; subst e
      cases hk
      exact ⟨x, L1, hx, hr, fun y => by simp only [List.count_append]; omega⟩
    · obtain ⟨x', Lv, h1, h2, h3⟩ := ih hE hk
      exact ⟨x', Lv, h1, h2, fun y => by have := h3 y; simp only [List.count_append]; omega⟩

theorem keys_setE (k : Nat) (v : AC) (env : List (Nat × AC)) : ∀ j, j ∈ (setE k v env).map (·.1) ↔ j = k ∨ j ∈ env.map (·.1) := by
  induction env with
  | nil => intro j; simp [setE]
  | cons e env ih =>
    obtain ⟨k', v'⟩ := e
    intro j
    simp only [setE]
    split
    · rename_i e; subst e; simp
    · simp only [List.map_cons, List.mem_cons, ih j]
      constructor <;> rintro (h | h | h) <;> simp [h]

theorem nodup_setE (k : Nat) (v : AC) (env : List (Nat × AC)) (h : (env.map (·.1)).Nodup) : ((setE k v env).map (·.1)).Nodup := by
  induction env with
  | nil => simp [setE]
  | cons e env ih =>
    obtain ⟨k', v'⟩ := e
    simp only [List.map_cons, List.nodup_cons] at h
    simp only [setE]
    split
    · rename_i e; subst e; simpa using h
    · rename_i hne
      simp only [List.map_cons, List.nodup_cons]
      refine ⟨fun hm => ?_, ih h.2⟩
      rcases (keys_setE k v env k').1 hm with e | hm
      · exact hne e.symm
      · exact h.1 hm

theorem RepE.weak {env L k v} (h : RepE P w Pr bl tmps env L) (hk : Abs.look k env = some v) :
    ∃ x Lv L', tmps[k]? = some x ∧ Rep P w Pr bl v x Lv ∧ RepE P w Pr bl tmps (setE k (share v) env) L' ∧ ∀ y, Lv.count y + L'.count y ≤ L.count y := by
  induction env generalizing L with
  | nil => simp [Abs.look] at hk
  | cons e env ih =>
    obtain ⟨k', v'⟩ := e
    obtain ⟨L1, L2, x, hx, hr, hE, rfl⟩ := h
    simp only [Abs.look] at hk
    split at hk
    · rename_i e; subst e
      cases hk
      refine ⟨x, L1, L2, hx, hr, ?_, fun y => by simp only [List.count_append]; omega⟩
      simp only [setE, if_true]
      exact ⟨[], L2, x, hx, hr.share, hE, rfl⟩
    · rename_i hne
      obtain ⟨x', Lv, L', h1, h2, h3, h4⟩ := ih hE hk
      refine ⟨x', Lv, L1 ++ L', h1, h2, ?_, fun y => by have := h4 y; simp only [List.count_append]; omega⟩
      simp only [setE, if_neg hne]
      exact ⟨L1, L', x, hx, hr, h3, rfl⟩

theorem RepE.other {env L} {k : Nat} {x : Value} (h : RepE P w Pr bl tmps env L) (hk : k ∉ env.map (·.1)) : RepE P w Pr bl (tmps.setIfInBounds k x) env L := by
  induction env generalizing L with
  | nil => exact h
  | cons e env ih =>
    obtain ⟨k', v'⟩ := e
    obtain ⟨L1, L2, y, hx, hr, hE, rfl⟩ := h
    simp only [List.map_cons, List.mem_cons, not_or] at hk
    exact ⟨L1, L2, y, by rw [Array.getElem?_setIfInBounds_ne (fun e => hk.1 e)]; exact hx, hr, ih hE hk.2, rfl⟩

theorem RepE.put {env L} {k : Nat} {v : AC} {x : Value} {Lv} (h : RepE P w Pr bl tmps env L) (hn : (env.map (·.1)).Nodup) (hlt : k < tmps.size) (hv : Rep P w Pr bl v x Lv) :
    ∃ L', RepE P w Pr bl (tmps.setIfInBounds k x) (setE k v env) L' ∧ ∀ y, L'.count y ≤ L.count y + Lv.count y := by
  induction env generalizing L with
  | nil =>
    refine ⟨Lv, ⟨Lv, [], x, ?_, hv, rfl, by simp⟩, fun y => by omega⟩
    simp [hlt]
  | cons e env ih =>
    obtain ⟨k', v'⟩ := e
    obtain ⟨L1, L2, y, hx, hr, hE, rfl⟩ := h
    simp only [List.map_cons, List.nodup_cons] at hn
    simp only [setE]
    split
    · rename_i e; subst e
      refine ⟨Lv ++ L2, ⟨Lv, L2, x, by simp [hlt], hv, hE.other hn.1, rfl⟩, fun y => by simp only [List.count_append]; omega⟩
    · rename_i hne
      obtain ⟨L', h1, h2⟩ := ih hE hn.2
      refine ⟨L1 ++ L', ⟨L1, L', y, ?_, hr, h1, rfl⟩, fun z => by have := h2 z; simp only [List.count_append]; omega⟩
      rw [Array.getElem?_setIfInBounds_ne hne]; exact hx

theorem rep_ofV (v : Value) : Rep P w Pr bl (ofV v) v [] := by
  unfold ofV
  split
  · exact .bool
  · exact .int
  · split
    · exact .str rfl (by unfold maxLen; omega)
    · exact .undef
  · exact .slNil
  · exact .undef

theorem Rep.nam_inv {y v x L} (h : Rep P w Pr bl (.nam y v) x L) : Rep P w Pr bl v x L := by
  cases h with
  | nam h => exact h
theorem Rep.nam_val {y v x L} (h : Rep P w Pr bl (.nam y v) x L) : y = x := by
  cases h with
  | nam h => rfl

theorem Rep.opt_inv {g v x L} (h : Rep P w Pr bl (.opt g v) x L) (hg : g = true) : Rep P w Pr bl v x L := by
  subst hg
  cases h with
  | optT h => exact h

/-- The slots and registers hold as the world changes elsewhere. -/
theorem RepE.kept {env L} (hp : ∀ a, Pr a → Pr' a ∧ w'.cell? a = w.cell? a) (h : RepE P w Pr bl tmps env L) (hk : ∀ g ∈ L, Kept w Pr w' Pr' g) : RepE P w' Pr' bl tmps env L := by
  induction env generalizing L with
  | nil => exact h
  | cons e env ih =>
    obtain ⟨k', v'⟩ := e
    obtain ⟨L1, L2, y, hx, hr, hE, rfl⟩ := h
    exact ⟨L1, L2, y, hx, hr.kept hp (fun g hg => hk g (List.mem_append_left _ hg)), ih hE (fun g hg => hk g (List.mem_append_right _ hg)), rfl⟩

theorem RepE.ext {env L} {b gs : List Nat} {bl : List (List Nat)} (h : RepE P w Pr (b :: bl) tmps env L) : RepE P w Pr ((b ++ gs) :: bl) tmps env L := by
  induction env generalizing L with
  | nil => exact h
  | cons e env ih =>
    obtain ⟨k', v'⟩ := e
    obtain ⟨L1, L2, y, hx, hr, hE, rfl⟩ := h
    exact ⟨L1, L2, y, hx, hr.ext, ih hE, rfl⟩

theorem RepF.kept {f gs L} (hp : ∀ a, Pr a → Pr' a ∧ w'.cell? a = w.cell? a) (h : RepF P w Pr bl f gs L) (hk : ∀ g ∈ L, Kept w Pr w' Pr' g) (hb : ∀ g ∈ gs, Kept w Pr w' Pr' g) :
    RepF P w' Pr' bl f gs L := by
  induction f generalizing gs L with
  | nil => exact h
  | cons c f ih =>
    obtain ⟨g, gs', cur, T, L1, L2, rfl, hg, hr, h1, hpr, hF, rfl⟩ := h
    have hkg := hb g List.mem_cons_self
    exact ⟨g, gs', cur, T, L1, L2, rfl, hkg.heap.trans hg, hr.kept hp (fun g hg => hk g (List.mem_append_left _ hg)), h1,
      fun a ha e => hpr a (hkg.pr a ha e) e, ih hF (fun g hg => hk g (List.mem_append_right _ hg)) (fun g hg => hb g (List.mem_cons_of_mem _ hg)), rfl⟩

theorem RepK.kept {K L} {bl : List (List Nat)} (hp : ∀ a, Pr a → Pr' a ∧ w'.cell? a = w.cell? a) (h : RepK P w Pr K bl L) (hk : ∀ g ∈ L, Kept w Pr w' Pr' g) (hb : ∀ g ∈ bl.flatten, Kept w Pr w' Pr' g) :
    RepK P w' Pr' K bl L := by
  induction K generalizing bl L with
  | nil => exact h
  | cons f K ih =>
    obtain ⟨b, bl', L1, L2, rfl, hF, hK, rfl⟩ := h
    exact ⟨b, bl', L1, L2, rfl, hF.kept hp (fun g hg => hk g (List.mem_append_left _ hg)) (fun g hg => hb g (by simp [hg])),
      ih hK (fun g hg => hk g (List.mem_append_right _ hg)) (fun g hg => hb g (by simpa using .inr (by simpa using hg))), rfl⟩

theorem RepF.ext {f gs L} {b xs : List Nat} {bl : List (List Nat)} (h : RepF P w Pr (b :: bl) f gs L) : RepF P w Pr ((b ++ xs) :: bl) f gs L := by
  induction f generalizing gs L with
  | nil => exact h
  | cons c f ih =>
    obtain ⟨g, gs', cur, T, L1, L2, rfl, hg, hr, h1, hpr, hF, rfl⟩ := h
    exact ⟨g, gs', cur, T, L1, L2, rfl, hg, hr.ext, h1, hpr, ih hF, rfl⟩

theorem RepF.length {f gs L} (h : RepF P w Pr bl f gs L) : f.length = gs.length := by
  induction f generalizing gs L with
  | nil => rw [h.1]; rfl
  | cons c f ih =>
    obtain ⟨g, gs', cur, T, L1, L2, rfl, hg, hr, h1, hpr, hF, rfl⟩ := h
    simp [ih hF]

theorem RepF.box_lt {f gs L} (h : RepF P w Pr bl f gs L) : ∀ g ∈ gs, g < w.heap.size := by
  induction f generalizing gs L with
  | nil => rw [h.1]; simp
  | cons c f ih =>
    obtain ⟨g, gs', cur, T, L1, L2, rfl, hg, hr, h1, hpr, hF, rfl⟩ := h
    intro x hx
    rcases List.mem_cons.1 hx with rfl | hx
    · exact (Array.getElem?_eq_some_iff.1 hg).1
    · exact ih hF x hx

theorem RepF.own_lt {f gs L} (h : RepF P w Pr bl f gs L) : ∀ g ∈ L, g < w.heap.size := by
  induction f generalizing gs L with
  | nil => rw [h.2]; simp
  | cons c f ih =>
    obtain ⟨g, gs', cur, T, L1, L2, rfl, hg, hr, h1, hpr, hF, rfl⟩ := h
    intro x hx
    rcases List.mem_append.1 hx with hx | hx
    · exact hr.own_lt x hx
    · exact ih hF x hx

theorem RepK.box_lt {K L} {bl : List (List Nat)} (h : RepK P w Pr K bl L) : ∀ g ∈ bl.flatten, g < w.heap.size := by
  induction K generalizing bl L with
  | nil => rw [h.1]; simp
  | cons f K ih =>
    obtain ⟨b, bl', L1, L2, rfl, hF, hK, rfl⟩ := h
    intro x hx
    simp only [List.flatten_cons, List.mem_append] at hx
    rcases hx with hx | hx
    · exact hF.box_lt x hx
    · exact ih hK x hx

theorem RepK.own_lt {K L} {bl : List (List Nat)} (h : RepK P w Pr K bl L) : ∀ g ∈ L, g < w.heap.size := by
  induction K generalizing bl L with
  | nil => rw [h.2]; simp
  | cons f K ih =>
    obtain ⟨b, bl', L1, L2, rfl, hF, hK, rfl⟩ := h
    intro x hx
    rcases List.mem_append.1 hx with hx | hx
    · exact hF.own_lt x hx
    · exact ih hK x hx

theorem RepE.own_lt {env L} (h : RepE P w Pr bl tmps env L) : ∀ g ∈ L, g < w.heap.size := by
  induction env generalizing L with
  | nil => rw [show L = [] from h]; simp
  | cons e env ih =>
    obtain ⟨k', v'⟩ := e
    obtain ⟨L1, L2, y, hx, hr, hE, rfl⟩ := h
    intro x hx
    rcases List.mem_append.1 hx with hx | hx
    · exact hr.own_lt x hx
    · exact ih hE x hx
end
end Go.Proofs.YtkpdlbidadcdjaaDoor.Abs
