/- Slices are made, and lengthened. No condition. -/
import Derived.Test.YtkpdlbidadcdjaaDoorAbsI
import Derived.Laws.MakeOwn
set_option linter.unusedVariables false
set_option linter.unusedSimpArgs false
namespace Go.Proofs.YtkpdlbidadcdjaaDoor.Abs
open Go
section
variable {P : Program} {w : World} {Pr : Addr → Prop}
variable {C : Cx} {st : St} {a : Act} {w' : World} {Pr' : Addr → Prop} {b : List Nat} {xs : List AC} {vs : List Value} {m : Bool} {gd : Option Bool} {dst : Option Nat}
  {next : Act → World → Prop} {Q : Exit → Act → World → Prop} {k : AC → St → Prop} {o : Oper}

theorem range_mod (z : Array Value) (n : Nat) : ((Array.range (n * z.size)).map fun i => z[i % z.size]!).toList = (List.replicate n z.toList).flatten := by
  rw [Array.toList_map, Array.toList_range]
  induction n with
  | zero => simp
  | succ n ih =>
    rw [Nat.succ_mul, List.range_add, List.map_append, ih, List.replicate_succ', List.flatten_append]
    congr 1
    simp only [List.flatten_singleton, List.map_map]
    apply List.ext_getElem?
    intro j
    by_cases hj : j < z.size
    · simp only [List.getElem?_map, List.getElem?_range hj, Option.map_some, Function.comp]
      rw [Nat.mul_add_mod_self_right]
      simp [Nat.mod_eq_of_lt hj, hj]
    · rw [List.getElem?_eq_none (by simp; omega), List.getElem?_eq_none (by simp; omega)]

/-- A new row of cells. -/
theorem SR.newRowCap (keep : Bool) {Le Ll Lx Lk L0 : List Nat} {cs : List AC} {arr : Array Value} {vals : List Value} {e n cap : Nat} (h : SRL C st a w Pr b xs vs Le Ll Lx Lk) (hc : Reps C.P w Pr [] cs vals L0) (h1 : ∀ v ∈ vals, v.oneCell' = true)
    (hpos : 0 < C.P.cellsOf e) (hsz : arr.size = cap * C.P.cellsOf e) (hn : n ≤ cap) (hcm : cap ≤ maxLen) (hv : arr.toList.take (n * C.P.cellsOf e) = vals)
    (hcnt : ∀ x, L0.count x + Le.count x + Ll.count x + Lx.count x + Lk.count x + (b :: C.bl0).flatten.count x ≤ 1) (hnew : ∀ x, 0 < L0.count x → x ∈ C.F ∨ C.w0.heap.size ≤ x) :
    SR C st a (w.alloc (.cells arr e)) (fun p => Pr p ∨ (keep = false ∧ p.block = w.heap.size ∧ p.spot = none ∧ p.off < n * C.P.cellsOf e)) b (.sl (if keep = true then .ex e else .of e) n cs :: xs) (.slice (some ⟨w.heap.size, 0, none⟩) n cap :: vs) := by
  have hp : ∀ p, Pr p → (Pr p ∨ (keep = false ∧ p.block = w.heap.size ∧ p.spot = none ∧ p.off < n * C.P.cellsOf e)) ∧ (w.alloc (.cells arr e)).cell? p = w.cell? p :=
    fun p hp => ⟨.inl hp, World.cell?_alloc_lt w _ p (h.prlt p hp)⟩
  have hk : ∀ g, g < w.heap.size → Kept w Pr (w.alloc (.cells arr e)) (fun p => Pr p ∨ (keep = false ∧ p.block = w.heap.size ∧ p.spot = none ∧ p.off < n * C.P.cellsOf e)) g :=
    fun g hg => ⟨heap_alloc_old w _ g hg, fun p hp e => by rcases hp with hp | ⟨_, hp, _⟩; exact hp; omega⟩
  have hs := h.since
  have hfresh : ∀ L : List Nat, (∀ x ∈ L, x < w.heap.size) → L.count w.heap.size = 0 := fun L hL => List.count_eq_zero.2 fun hm => Nat.lt_irrefl _ (hL _ hm)
  refine ⟨Le, Ll, (w.heap.size :: L0) ++ Lx, Lk, ⟨?_, ?_, ?_, ?_, fun x => ?_, fun x hx => ?_, h.kE, h.kL, fun p hp => ?_, ⟨hs.os, hs.tape, hs.output, (by have := hs.size; simp; omega), fun g hg hF => ?_, fun p hp' => ?_, fun p hp' => ?_⟩, h.defers, h.size⟩⟩
  · exact h.env.kept hp (fun x hx => hk x (h.env.own_lt x hx))
  · exact h.loc.kept hp (fun x hx => hk x (h.loc.own_lt x hx))
  · refine Reps.cons ?_ (h.reg.kept hp (fun x hx => hk x (h.reg.own_lt x hx)))
    cases keep with
    | false =>
      refine .slOf (cur := arr) (hc.kept hp (fun x hx => hk x (hc.own_lt x hx))) h1 (heap_alloc_new w _) hn hcm hpos hsz hv ?_ ?_
      · rintro p (hp | ⟨_, _, _, hp⟩) e
        · have := h.prlt p hp; omega
        · exact hp
      · intro j hj; exact .inr ⟨rfl, rfl, rfl, hj⟩
    | true =>
      refine .slEx (cur := arr) (hc.kept hp (fun x hx => hk x (hc.own_lt x hx))) h1 (heap_alloc_new w _) hn hcm hpos hsz hv ?_
      rintro p (hp | ⟨hp, _⟩) e
      · have := h.prlt p hp; omega
      · cases hp
  · exact h.K.kept hp (fun x hx => hk x (h.K.own_lt x hx)) (fun x hx => hk x (h.K.box_lt x hx))
  · have := hcnt x
    simp only [List.cons_append, List.count_cons, List.count_append]
    by_cases e : x = w.heap.size
    · subst e
      have := hfresh Le h.env.own_lt
      have := hfresh Ll h.loc.own_lt
      have := hfresh Lx h.reg.own_lt
      have := hfresh Lk h.K.own_lt
      have := hfresh _ h.K.box_lt
      have := hfresh L0 hc.own_lt
      simp only [beq_self_eq_true, if_true]
      omega
    · have : (w.heap.size == x) = false := by simpa using fun e' => e e'.symm
      simp only [this, Bool.false_eq_true, if_false]
      omega
  · simp only [List.cons_append, List.count_cons, List.count_append] at hx
    by_cases e : x = w.heap.size
    · subst e; right; exact hs.size
    · have e' : (w.heap.size == x) = false := by simpa using fun e' => e e'.symm
      simp only [e', Bool.false_eq_true, if_false] at hx
      by_cases h0 : 0 < L0.count x
      · exact hnew x h0
      · exact h.new x (by omega)
  · rcases hp with hp | ⟨_, hp, _⟩
    · have := h.prlt p hp; simp; omega
    · rw [hp]; simp
  · exact (heap_alloc_old w _ g (by have := hs.size; omega)).trans (hs.block g hg hF)
  · exact ⟨.inl (hs.prot p hp').1, (World.cell?_alloc_lt w _ p (h.prlt p (hs.prot p hp').1)).trans (hs.prot p hp').2⟩
  · rcases hp' with hp' | ⟨_, hp', _⟩
    · exact hs.newPr p hp'
    · right; right; rw [hp']; exact hs.size

theorem SR.newRow (keep : Bool) {Le Ll Lx Lk L0 : List Nat} {cs : List AC} {arr : Array Value} {e n : Nat} (h : SRL C st a w Pr b xs vs Le Ll Lx Lk) (hc : Reps C.P w Pr [] cs arr.toList L0) (h1 : ∀ v ∈ arr.toList, v.oneCell' = true)
    (hpos : 0 < C.P.cellsOf e) (hsz : arr.size = n * C.P.cellsOf e) (hn : n ≤ maxLen)
    (hcnt : ∀ x, L0.count x + Le.count x + Ll.count x + Lx.count x + Lk.count x + (b :: C.bl0).flatten.count x ≤ 1) (hnew : ∀ x, 0 < L0.count x → x ∈ C.F ∨ C.w0.heap.size ≤ x) :
    SR C st a (w.alloc (.cells arr e)) (fun p => Pr p ∨ (keep = false ∧ p.block = w.heap.size ∧ p.spot = none ∧ p.off < n * C.P.cellsOf e)) b (.sl (if keep = true then .ex e else .of e) n cs :: xs) (.slice (some ⟨w.heap.size, 0, none⟩) n n :: vs) :=
  SR.newRowCap keep h hc h1 hpos hsz (Nat.le_refl _) hn (List.take_of_length_le (by rw [Array.length_toList]; omega)) hcnt hnew

theorem reps_replicate {bl : List (List Nat)} {cs : List AC} {l : List Value} (h : Reps P w Pr bl cs l []) : ∀ n, Reps P w Pr bl (List.replicate n cs).flatten (List.replicate n l).flatten []
  | 0 => by simpa using Reps.nil
  | n + 1 => by simpa [List.replicate_succ] using h.append (reps_replicate h n)

theorem replicate_one {l : List Value} (h : ∀ v ∈ l, v.oneCell' = true) (n : Nat) : ∀ v ∈ (List.replicate n l).flatten, v.oneCell' = true := by
  intro v hv
  obtain ⟨m, hm, hv⟩ := List.mem_flatten.1 hv
  exact h v ((List.mem_replicate.1 hm).2 ▸ hv)

theorem cellsOf_info {t : TypeId} {i : TypeInfo} (h : P.info? t = some i) : P.cellsOf t = i.size := by simp [Program.cellsOf, h]

theorem s_buildSlice {t : TypeId} {len : Nat} {parts : Array (Nat × Operand)} (ho : o.op = .buildSlice t len parts) (h : SR C st a w Pr b xs vs) (hg : gOk gd) (hD : wD_buildSlice C.P C.fi m gd dst t len parts st k) (hn : Goes C m st b a xs vs o.dst next k) :
    o.wp C.P a w next Q := by
  obtain ⟨us, st', hk, hS, hK, hm⟩ := h.wTs hD hg
  split at hk
  · rename_i e htd
    obtain ⟨hpos, hbig, hk⟩ := hk
    split at hk
    · rename_i zs hz
      obtain ⟨hst, hzl, hk⟩ := hk
      split at hk
      · rename_i cs hf
        obtain ⟨hfl, hk⟩ := hk
        have hu := tdOf_slice htd
        obtain ⟨i, z, hi, hzz, rfl⟩ := info_of_zero hz
        have hul : us.length = ((parts.toList.map (·.2)).map a.eval).length := by
          obtain ⟨Le, Ll, Lx, Lk, h0⟩ := hS
          have := h0.reg.length
          have h1 := h
          obtain ⟨_, _, _, _, h1⟩ := h1
          have h2 := h1.reg.length
          simp only [List.length_append, List.length_reverse] at this
          omega
        obtain ⟨Lu, Le, Ll, Lx, Lk, hu1, h0, hc, hn1⟩ := hS.out hul
        have hzsz : z.cells.size = C.P.cellsOf e := by simpa using hzl
        obtain ⟨arr, L', e1, e2, e3, e4⟩ := fill_sound (P := C.P) (w := w) (Pr := Pr) (bl := b :: C.bl0) (arr := (Array.range (len * z.cells.size)).map fun i => z.cells[i % z.cells.size]!) (L := [])
          (by rw [range_mod]; exact reps_replicate (reps_ofV _) len) (by rw [range_mod]; exact replicate_one (storable_all hst) len) hu1 hf
        have hasz : arr.size = len * C.P.cellsOf e := by
          have key : ∀ (l : List (Nat × Value)) (place : Nat → Option (Nat × Nat)) (ar ar' : Array Value), Instr.fill place ar l = some ar' → ar'.size = ar.size := by
            intro l
            induction l with
            | nil => intro place ar ar' h; simp only [Instr.fill, Option.some.injEq] at h; rw [h]
            | cons p l ih =>
              intro place ar ar' h
              obtain ⟨i, v⟩ := p
              simp only [Instr.fill] at h
              split at h
              · cases h
              · split at h
                · cases h
                · rw [ih _ _ _ h]
                  rw [← Array.foldl_toList]
                  have key2 : ∀ (l : List (Value × Nat)) (off : Nat) (ar : Array Value), (l.foldl (fun cs (x : Value × Nat) => cs.setIfInBounds (off + x.2) x.1) ar).size = ar.size := by
                    intro l
                    induction l with
                    | nil => intro off ar; rfl
                    | cons q l ih => intro off ar; rw [List.foldl_cons, ih]; simp
                  exact key2 _ _ _
          rw [key _ _ _ _ e1]; simp [hzsz]
        have hparts : (parts.map fun x => (x.1, a.eval x.2)).toList = (parts.toList.map (·.1)).zip ((parts.toList.map (·.2)).map a.eval) := by
          rw [Array.toList_map, List.map_map, List.zip_map']
          rfl
        have hcells := C.P.cellsOf e
        refine wp_val (v := .slice (some ⟨w.heap.size, 0, none⟩) len len) (w' := w.alloc (.cells arr e)) ?_ (hn _ _ _ _ _ _ hk (SR.newRow (C.fi.keeps dst) h0 (e2.flat hfl) e3 hpos hasz (by unfold maxLen; have := Nat.le_mul_of_pos_right len hpos; omega)
          (fun x => by have := hc x; have := e4 x; simp only [List.count_nil] at *; omega) (fun x hx => hn1 x (by have := e4 x; simp only [List.count_nil] at *; omega))) fun e => ⟨hm e, rfl⟩)
        have hbig' : ¬ (len * C.P.cellsOf e > 2 ^ 24) := by simpa using hbig
        simp only [execOp, ho, Instr.buildSlice, Sem.run_bind, run_underlying hu, Result.andThen_ok, Sem.run_pure, run_sizeOf_of hpos, if_neg hbig']
        by_cases h0' : len * C.P.cellsOf e = 0
        · have hl0 : len = 0 := by
            rcases Nat.mul_eq_zero.1 h0' with h | h
            · exact h
            · omega
          subst hl0
          simp only [Nat.zero_mul, if_true, Sem.run_pure, Result.andThen_ok] at e1 ⊢
          rw [hparts]
          have er : ∀ z : Array Value, (Array.range 0).map (fun i => z[i % z.size]!) = #[] := fun z => by simp
          rw [er] at e1
          simp only [pure_bind]
          rw [er, e1]
          simp [newRow]
        · simp only [if_neg h0', Sem.run_bind, zeroValue, typeInfo, run_program, Result.andThen_ok, hi, Sem.run_pure, hzz]
          rw [← hzsz, hparts] 
          rw [hzsz] at e1
          rw [hzsz, e1]
          simp [newRow]
      · exact hk.elim
    · exact hk.elim
  · exact hk.elim
end
end Go.Proofs.YtkpdlbidadcdjaaDoor.Abs
