/- Structs and slices are made. No condition. -/
import Derived.Test.YtkpdlbidadcdjaaDoorAbsH
set_option linter.unusedVariables false
set_option linter.unusedSimpArgs false
namespace Go.Proofs.YtkpdlbidadcdjaaDoor.Abs
open Go
section
variable {P : Program} {w : World} {Pr : Addr → Prop}
variable {C : Cx} {st : St} {a : Act} {w' : World} {Pr' : Addr → Prop} {b : List Nat} {xs : List AC} {vs : List Value} {m : Bool} {gd : Option Bool} {dst : Option Nat}
  {next : Act → World → Prop} {Q : Exit → Act → World → Prop} {k : AC → St → Prop} {o : Oper}

theorem storable_ofV {v : Value} (h : storable (ofV v) = true) : v.oneCell' = true := by
  cases v <;> simp [ofV, storable] at h <;> rfl

theorem storable_all {l : List Value} (h : (l.map ofV).all storable = true) : ∀ v ∈ l, v.oneCell' = true :=
  fun v hv => storable_ofV (List.all_eq_true.1 h _ (List.mem_map.2 ⟨v, hv, rfl⟩))

theorem run_mapM_sizes {fs : List Field} (h : ∀ f ∈ fs, 0 < P.cellsOf f.type) (w : World) :
    (fs.mapM (fun f => do pure (f.offset, ← sizeOf f.type) : Field → Sem (Nat × Nat))).run P w = .ok (fs.map fun f => (f.offset, P.cellsOf f.type)) w := by
  induction fs with
  | nil => simp
  | cons f fs ih =>
    have ih := ih fun g hg => h g (List.mem_cons_of_mem _ hg)
    simp only [List.mapM_cons, Sem.run_bind, run_sizeOf_of (h f List.mem_cons_self), Result.andThen_ok, Sem.run_pure, ih, List.map_cons]

theorem s_build {t : TypeId} {parts : Array (Nat × Operand)} (ho : o.op = .build t parts) (h : SR C st a w Pr b xs vs) (hg : gOk gd) (hD : wD_build C.P C.fi m gd dst t parts st k) (hn : Goes C m st b a xs vs o.dst next k) :
    o.wp C.P a w next Q := by
  obtain ⟨us, st', hk, hS, hK, hm⟩ := h.wTs hD hg
  split at hk
  · rename_i fs zs htd hz
    obtain ⟨hpos, hst, hk⟩ := hk
    split at hk
    · rename_i cs hf
      obtain ⟨gs, hu, hfs⟩ := tdOf_struct htd
      obtain ⟨i, z, hi, hzz, rfl⟩ := info_of_zero hz
      have hul : us.length = ((parts.toList.map (·.2)).map a.eval).length := by
        obtain ⟨Le, Ll, Lx, Lk, h0⟩ := hS
        have := h0.reg.length
        have h1 := h
        obtain ⟨_, _, _, _, h1⟩ := h1
        have h2 := h1.reg.length
        simp only [List.length_append, List.length_reverse] at this
        omega
      obtain ⟨Lu, Le, Ll, Lx, Lk, hu1, h0, hc, hn1⟩ := hS.out hul
      obtain ⟨arr, L', e1, e2, e3, e4⟩ := fill_sound (w := w) (arr := z.cells) (reps_ofV (w := w) (Pr := Pr) (bl := b :: C.bl0) z.cells.toList) (storable_all hst) hu1 hf
      have hsz : ∀ f ∈ gs.toList, 0 < C.P.cellsOf f.type := by
        intro f hf'
        have := List.all_eq_true.1 hpos (f.offset, C.P.cellsOf f.type, f.type) (by rw [hfs]; exact List.mem_map.2 ⟨f, hf', rfl⟩)
        simpa using this
      have hmap : (gs.mapM (fun f => do pure (f.offset, ← sizeOf f.type) : Field → Sem (Nat × Nat))).run C.P w = .ok (gs.map fun f => (f.offset, C.P.cellsOf f.type)) w := by
        rw [Array.mapM_eq_mapM_toList, Sem.run_map, run_mapM_sizes hsz, Result.andThen_ok]
        congr 1
        exact Array.ext' (by simp)
      have hplace : (fun i : Nat => (gs.map fun f => (f.offset, C.P.cellsOf f.type))[i]?) = fun i : Nat => (fs[i]?).map fun f : Nat × Nat × TypeId => (f.1, f.2.1) := by
        funext i
        rw [hfs]
        simp only [Array.getElem?_map, List.getElem?_map, Option.map_map]
        rw [← Array.getElem?_toList]
        rfl
      have hparts : (parts.map fun x => (x.1, a.eval x.2)).toList = (parts.toList.map (·.1)).zip ((parts.toList.map (·.2)).map a.eval) := by
        rw [Array.toList_map, List.map_map, List.zip_map']
        rfl
      refine wp_val (v := .agg arr) ?_ (hn _ _ _ _ _ _ hk (SR.back h0 (.agg (by simpa using e2) e3) hc hn1 (fun x => by have := e4 x; simpa using this)) fun e => ⟨hm e, rfl⟩)
      simp only [execOp, ho, Instr.build, Sem.run_bind, zeroValue, typeInfo, run_program, Result.andThen_ok, hi, Sem.run_pure, hzz, run_underlying hu, hmap]
      rw [hplace, hparts, e1]
      simp
    · exact hk.elim
  · exact hk.elim
end
end Go.Proofs.YtkpdlbidadcdjaaDoor.Abs
