/- Boxes are made; fields, elements, lengths, structs. No condition. -/
import Derived.Test.YtkpdlbidadcdjaaDoorAbsG
set_option linter.unusedVariables false
set_option linter.unusedSimpArgs false
namespace Go.Proofs.YtkpdlbidadcdjaaDoor.Abs
open Go
section
variable {P : Program} {w : World} {Pr : Addr → Prop}
variable {C : Cx} {st : St} {a : Act} {w' : World} {Pr' : Addr → Prop} {b : List Nat} {xs : List AC} {vs : List Value} {m : Bool} {gd : Option Bool} {dst : Option Nat}
  {next : Act → World → Prop} {Q : Exit → Act → World → Prop} {k : AC → St → Prop} {o : Oper}

theorem since_alloc {w0 : World} {Pr0 : Addr → Prop} {F : List Nat} (hs : Since w0 Pr0 F w Pr) (hl : ∀ p, Pr p → p.block < w.heap.size) (o : Obj) : Since w0 Pr0 F (w.alloc o) Pr :=
  ⟨hs.os, hs.tape, hs.output, by have := hs.size; simp; omega, fun g hg hF => (heap_alloc_old w o g (by have := hs.size; omega)).trans (hs.block g hg hF),
    fun p hp => ⟨(hs.prot p hp).1, (World.cell?_alloc_lt w o p (hl p (hs.prot p hp).1)).trans (hs.prot p hp).2⟩, hs.newPr⟩

/-- A box is made of cells that a register holds. -/
theorem SR.newBox {f : List (List AC)} {K : List (List (List AC))} {cs : List AC} {cells : Array Value} {T : TypeId} {L0 : List Nat} {Le Ll Lx Lk : List Nat} (h : SRL C st a w Pr b xs vs Le Ll Lx Lk) (hK : st.K = f :: K)
    (hc : Reps C.P w Pr (b :: C.bl0) cs cells.toList L0) (h1 : ∀ v ∈ cells.toList, v.oneCell' = true)
    (hcnt : ∀ x, L0.count x + Le.count x + Ll.count x + Lx.count x + Lk.count x + (b :: C.bl0).flatten.count x ≤ 1)
    (hnew : ∀ x, 0 < L0.count x → x ∈ C.F ∨ C.w0.heap.size ≤ x) :
    SR C { st with K := (f ++ [cs]) :: K } a (w.alloc (.cells cells T)) Pr (b ++ [w.heap.size]) (.ptr 0 f.length 0 :: xs) (.pointer (some ⟨w.heap.size, 0, none⟩) :: vs) := by
  have hp : ∀ p, Pr p → Pr p ∧ (w.alloc (.cells cells T)).cell? p = w.cell? p := fun p hp => ⟨hp, World.cell?_alloc_lt w _ p (h.prlt p hp)⟩
  have hk : ∀ g, g < w.heap.size → Kept w Pr (w.alloc (.cells cells T)) Pr g := fun g hg => ⟨heap_alloc_old w _ g hg, fun p hp _ => hp⟩
  have h0 := h.K
  rw [hK] at h0
  obtain ⟨b', bl', L1, L2, e, hF, hK', rfl⟩ := h0
  cases e
  have hflt := hF.box_lt
  have hF1 := (hF.kept hp (fun x hx => hk x (hF.own_lt x hx)) (fun x hx => hk x (hF.box_lt x hx))).ext (xs := [w.heap.size])
  have hc1 := (hc.kept hp (fun x hx => hk x (hc.own_lt x hx))).ext (gs := [w.heap.size])
  obtain ⟨L3, hF2, c3⟩ := hF1.push (heap_alloc_new w (.cells cells T)) hc1 h1 (fun p hp e => by have := h.prlt p hp; omega)
  have hK1 := hK'.kept hp (fun x hx => hk x (hK'.own_lt x hx)) (fun x hx => hk x (hK'.box_lt x hx))
  have hfresh : ∀ L : List Nat, (∀ x ∈ L, x < w.heap.size) → L.count w.heap.size = 0 := fun L hL => List.count_eq_zero.2 fun hm => Nat.lt_irrefl _ (hL _ hm)
  refine ⟨Le, Ll, Lx, L3 ++ L2, ⟨?_, ?_, ?_, ⟨b ++ [w.heap.size], C.bl0, L3, L2, rfl, hF2, hK1, rfl⟩, fun x => ?_, fun x hx => ?_, h.kE, h.kL, fun p hp => (by have := h.prlt p hp; simp; omega), since_alloc h.since h.prlt _, h.defers, h.size⟩⟩
  · exact (h.env.kept hp (fun x hx => hk x (h.env.own_lt x hx))).ext
  · exact (h.loc.kept hp (fun x hx => hk x (h.loc.own_lt x hx))).ext
  · refine Reps.cons (L := []) (.ptr ?_) ((h.reg.kept hp (fun x hx => hk x (h.reg.own_lt x hx))).ext)
    simp only [List.getElem?_cons_zero, Option.bind_some]
    rw [hF.length]; simp
  · have := hcnt x; have := c3 x
    simp only [List.flatten_cons, List.count_append, List.count_cons, List.count_nil] at *
    by_cases e : x = w.heap.size
    · subst e
      have := hfresh Le h.env.own_lt
      have := hfresh Ll h.loc.own_lt
      have := hfresh Lx h.reg.own_lt
      have := hfresh L1 hF.own_lt
      have := hfresh L2 hK'.own_lt
      have := hfresh b hF.box_lt
      have := hfresh C.bl0.flatten hK'.box_lt
      have := hfresh L0 hc.own_lt
      simp only [beq_self_eq_true, if_true]
      omega
    · have : (w.heap.size == x) = false := by simpa using fun e' => e e'.symm
      simp only [this, Bool.false_eq_true, if_false]
      omega
  · have := c3 x
    simp only [List.flatten_cons, List.count_append, List.count_cons, List.count_nil] at *
    by_cases e : x = w.heap.size
    · subst e; right; exact h.since.size
    · have e' : (w.heap.size == x) = false := by simpa using fun e' => e e'.symm
      simp only [e', Bool.false_eq_true, if_false] at hx
      by_cases h0 : 0 < L0.count x
      · exact hnew x h0
      · refine h.new x ?_
        simp only [List.flatten_cons, List.count_append] at *
        omega

theorem info_of_zero {t : TypeId} {cs : List AC} (h : zeroOf P t = some cs) : ∃ i z, P.info? t = some i ∧ i.zero = some z ∧ cs = z.cells.toList.map ofV := by
  unfold zeroOf at h
  cases hi : P.info? t with
  | none => simp [hi] at h
  | some i =>
    cases hz : i.zero with
    | none => simp [hi, hz] at h
    | some z => simp [hi, hz] at h; exact ⟨i, z, rfl, hz, h.symm⟩

theorem reps_ofV {bl : List (List Nat)} : ∀ l : List Value, Reps P w Pr bl (l.map ofV) l []
  | [] => .nil
  | v :: l => Reps.cons (L := []) (M := []) (rep_ofV v) (reps_ofV l)

theorem s_alloc {t : TypeId} (ho : o.op = .alloc t) (h : SR C st a w Pr b xs vs) (hg : gOk gd) (hD : wD_alloc C.P C.fi m gd dst t st k) (hn : Goes C m st b a xs vs o.dst next k) :
    o.wp C.P a w next Q := by
  obtain ⟨rfl, hD⟩ := hD
  split at hD
  · rename_i cs f K hz hK
    obtain ⟨hone, hD⟩ := hD
    obtain ⟨i, z, hi, hzz, rfl⟩ := info_of_zero hz
    obtain ⟨Le, Ll, Lx, Lk, h0⟩ := h
    have h1 : ∀ v ∈ z.cells.toList, v.oneCell' = true := by
      intro v hv
      unfold zeroOk at hone
      simp only [hi, Option.bind_some, hzz] at hone
      exact List.all_eq_true.1 hone v hv
    refine wp_val (v := .pointer (some ⟨w.heap.size, 0, none⟩)) (w' := w.alloc (.cells z.cells t)) ?_ (hn _ _ _ _ _ _ hD (SR.newBox h0 hK (reps_ofV _) h1 (fun x => by have := h0.cnt x; simp only [List.count_nil]; omega) (fun x hx => by simp at hx)) fun e => by cases e)
    simp [execOp, ho, Instr.alloc, zeroValue, typeInfo, hi, hzz, newVar, newRow]
  · exact hD.elim

theorem s_box {t : TypeId} {x : Operand} (ho : o.op = .box t x) (h : SR C st a w Pr b xs vs) (hg : gOk gd) (hD : wD_box C.P C.fi m gd dst t x st k) (hn : Goes C m st b a xs vs o.dst next k) :
    o.wp C.P a w next Q := by
  obtain ⟨rfl, hD⟩ := hD
  obtain ⟨v, st', hk, hS, hKe, _⟩ := h.wT hD hg
  obtain ⟨Le, Ll, Lx, Lk, h0⟩ := hS
  split at hk
  · exact hk.elim
  · exact hk.elim
  · rename_i v K0 f K ht hop hK
    obtain ⟨hnu, hk⟩ := hk
    have hreg := h0.reg
    generalize hvv : a.eval x = vv at hreg
    cases hreg with
    | cons g1 g2 =>
      rename_i Lv Lx'
      obtain ⟨hc1, hc2⟩ := rep_cells g1 hnu (fun vs e => ht vs e) (fun g u e => hop g u e)
      have h1 : SRL C st' a w Pr b xs vs Le Ll Lx' Lk := { h0 with
        reg := g2
        cnt := fun x => by have := h0.cnt x; simp only [List.count_append] at this ⊢; omega
        new := fun x hx => h0.new x (by simp only [List.count_append] at hx ⊢; omega) }
      refine wp_val (v := .pointer (some ⟨w.heap.size, 0, none⟩)) (w' := w.alloc (.cells vv.cells t)) ?_ (hn _ _ _ _ _ _ hk (SR.newBox h1 hK hc1 hc2 (fun x => by have := h0.cnt x; simp only [List.count_append] at this ⊢; omega)
        (fun x hx => h0.new x (by simp only [List.count_append]; omega))) fun e => by cases e)
      simp [execOp, ho, Instr.box, newVar, newRow, hvv]
  · exact hk.elim

theorem storable_cells {bl : List (List Nat)} {v : AC} {x : Value} {L : List Nat} (h : Rep P w Pr bl v x L) (hu : storable v = true) :
    Reps P w Pr bl (cellsOfV v) x.cells.toList L ∧ ∀ y ∈ x.cells.toList, y.oneCell' = true :=
  rep_cells h (by cases v <;> simp [storable] at hu <;> rfl) (fun vs e => by subst e; simp [storable] at hu) (fun g u e => by subst e; simp [storable] at hu)

theorem Reps.count_reverse {bl : List (List Nat)} {cs : List AC} {vals : List Value} {L : List Nat} (h : Reps P w Pr bl cs.reverse vals.reverse L) :
    ∃ L', Reps P w Pr bl cs vals L' ∧ ∀ x, L'.count x = L.count x := by
  induction cs generalizing vals L with
  | nil =>
    have := h.length
    simp at this
    obtain rfl : vals = [] := List.eq_nil_of_length_eq_zero this.symm
    cases h
    exact ⟨[], .nil, fun x => rfl⟩
  | cons c cs ih =>
    cases vals with
    | nil => have := h.length; simp at this
    | cons v vals =>
      simp only [List.reverse_cons] at h
      obtain ⟨v1, v2, L1, L2, e, rfl, hl, h1, h2⟩ := h.split
      have hl2 := h2.length
      have hv2 : v2.length = 1 := by simpa using hl2.symm
      obtain ⟨e1, e2⟩ := List.append_inj' e (by simp [hv2])
      subst e1; subst e2
      obtain ⟨L', r1, r2⟩ := ih h1
      cases h2 with
      | cons g1 g2 =>
        rename_i La Lb
        cases g2
        exact ⟨La ++ L', .cons g1 r1, fun x => by have := r2 x; simp only [List.count_append, List.count_nil]; omega⟩

/-- Several operands that are used up. -/
theorem SR.wTs {l : List Operand} : ∀ {st : St} {xs : List AC} {vs : List Value} {k : List AC → St → Prop}, SR C st a w Pr b xs vs → Abs.wTs C.fi m gd l st k → gOk gd →
    ∃ us st', k us st' ∧ SR C st' a w Pr b (us.reverse ++ xs) ((l.map a.eval).reverse ++ vs) ∧ st'.K = st.K ∧ (m = false → st' = st) := by
  induction l with
  | nil => intro st xs vs k h hu hg; exact ⟨[], st, hu, by simpa using h, rfl, fun _ => rfl⟩
  | cons x l ih =>
    intro st xs vs k h hu hg
    have hu' : Abs.wT C.fi m gd st x (fun v st => Abs.wTs C.fi m gd l st fun vs st => k (v :: vs) st) := hu
    obtain ⟨u, st1, hk, hS, hK, hm⟩ := h.wT (x := x) hu' hg
    obtain ⟨us, st2, hk2, hS2, hK2, hm2⟩ := ih hS hk hg
    refine ⟨u :: us, st2, hk2, ?_, hK2.trans hK, fun e => (hm2 e).trans (hm e)⟩
    simpa [List.append_assoc] using hS2

/-- Registers taken out. -/
theorem SR.out {us : List AC} {vals : List Value} (h : SR C st a w Pr b (us.reverse ++ xs) (vals.reverse ++ vs)) (hl : us.length = vals.length) :
    ∃ Lu Le Ll Lx Lk, Reps C.P w Pr (b :: C.bl0) us vals Lu ∧ SRL C st a w Pr b xs vs Le Ll Lx Lk ∧ (∀ x, Lu.count x + Le.count x + Ll.count x + Lx.count x + Lk.count x + (b :: C.bl0).flatten.count x ≤ 1) ∧
      ∀ x, 0 < Lu.count x → x ∈ C.F ∨ C.w0.heap.size ≤ x := by
  obtain ⟨Le, Ll, Lx, Lk, h0⟩ := h
  obtain ⟨v1, v2, L1, L2, e, rfl, hl1, h1, h2⟩ := h0.reg.split
  obtain ⟨e1, e2⟩ := List.append_inj e.symm (by simpa [hl] using hl1)
  subst e1; subst e2
  obtain ⟨Lu, r1, r2⟩ := h1.count_reverse
  refine ⟨Lu, Le, Ll, L2, Lk, r1, { h0 with reg := h2, cnt := fun x => ?_, new := fun x hx => h0.new x ?_ }, fun x => ?_, fun x hx => h0.new x ?_⟩
  · have := h0.cnt x; simp only [List.count_append] at this; omega
  · simp only [List.count_append]; omega
  · have := h0.cnt x; have := r2 x; simp only [List.count_append] at *; omega
  · have := r2 x; simp only [List.count_append]; omega

/-- A register that is made of what was taken out. -/
theorem SR.back {Lu Le Ll Lx Lk M : List Nat} {c : AC} {v : Value} (h : SRL C st a w Pr b xs vs Le Ll Lx Lk) (hr : Rep C.P w Pr (b :: C.bl0) c v M)
    (hc : ∀ x, Lu.count x + Le.count x + Ll.count x + Lx.count x + Lk.count x + (b :: C.bl0).flatten.count x ≤ 1) (hn : ∀ x, 0 < Lu.count x → x ∈ C.F ∨ C.w0.heap.size ≤ x)
    (hM : ∀ x, M.count x ≤ Lu.count x) : SR C st a w Pr b (c :: xs) (v :: vs) := by
  refine ⟨Le, Ll, M ++ Lx, Lk, { h with reg := .cons hr h.reg, cnt := fun x => ?_, new := fun x hx => ?_ }⟩
  · have := hc x; have := hM x; simp only [List.count_append]; omega
  · have := hM x
    simp only [List.count_append] at hx
    by_cases h0 : 0 < Lu.count x
    · exact hn x h0
    · exact h.new x (by omega)

theorem fold_set (l : List Value) : ∀ (s off : Nat) (cells : Array Value), off + s + l.length ≤ cells.size →
    (l.zipIdx s).foldl (fun cs (x : Value × Nat) => cs.setIfInBounds (off + x.2) x.1) cells = (cells.toList.take (off + s) ++ l ++ cells.toList.drop (off + s + l.length)).toArray := by
  induction l with
  | nil => intro s off cells _; simp
  | cons v l ih =>
    intro s off cells h
    simp only [List.length_cons] at h
    rw [List.zipIdx_cons, List.foldl_cons, ih (s + 1) off _ (by simp; omega)]
    apply Array.ext'
    simp only [Array.toList_setIfInBounds]
    apply List.ext_getElem?
    intro j
    have hlen : cells.toList.length = cells.size := by simp
    have t1 : ((cells.toList.set (off + s) v).take (off + (s + 1))) = cells.toList.take (off + s) ++ [v] := by
      rw [show off + (s + 1) = (off + s) + 1 by omega, List.take_add_one, List.take_set_of_le (by omega)]
      simp [List.getElem?_set_self (show off + s < cells.toList.length by omega)]
    have t2 : (cells.toList.set (off + s) v).drop (off + (s + 1) + l.length) = cells.toList.drop (off + s + (v :: l).length) := by
      rw [List.drop_set_of_lt (by omega)]; congr 1; simp; omega
    rw [t1, t2]; simp

theorem fill_sound {bl : List (List Nat)} {place : Nat → Option (Nat × Nat)} : ∀ {ids : List Nat} {us : List AC} {vals : List Value} {cells cs : List AC} {arr : Array Value} {L Lu : List Nat},
    Reps P w Pr bl cells arr.toList L → (∀ v ∈ arr.toList, v.oneCell' = true) → Reps P w Pr bl us vals Lu → fillC place cells (ids.zip us) = some cs →
    ∃ arr' L', Instr.fill place arr (ids.zip vals) = some arr' ∧ Reps P w Pr bl cs arr'.toList L' ∧ (∀ v ∈ arr'.toList, v.oneCell' = true) ∧ ∀ x, L'.count x ≤ L.count x + Lu.count x := by
  intro ids
  induction ids with
  | nil =>
    intro us vals cells cs arr L Lu hz h1 hu hf
    simp only [List.zip_nil_left, fillC, Option.some.injEq] at hf
    subst hf
    exact ⟨arr, L, by simp [Instr.fill], hz, h1, fun x => by omega⟩
  | cons i ids ih =>
    intro us vals cells cs arr L Lu hz h1 hu hf
    cases us with
    | nil =>
      cases hu
      simp only [List.zip_nil_right, fillC, Option.some.injEq] at hf
      subst hf
      exact ⟨arr, L, by simp [Instr.fill], hz, h1, fun x => by omega⟩
    | cons u us =>
      cases hu with
      | cons g1 g2 =>
        rename_i v vals L1 L2
        simp only [List.zip_cons_cons, fillC] at hf
        split at hf
        · cases hf
        · rename_i off size hp
          split at hf
          · cases hf
          · rename_i hcond
            simp only [not_or, Bool.not_eq_false, ne_eq, Decidable.not_not, Nat.not_lt] at hcond
            obtain ⟨hst, hsz, hfit⟩ := hcond
            obtain ⟨hc1, hc2⟩ := storable_cells g1 hst
            have hlen := hz.length
            have hcl := hc1.length
            have hasz : arr.toList.length = arr.size := Array.length_toList
            have hvsz : v.cells.toList.length = v.cells.size := Array.length_toList
            obtain ⟨Lm, Lr, L', _, hput, c1, c2⟩ := hz.put hc1 (off := off) (by omega)
            have hfold : v.cells.zipIdx.foldl (fun cs (x : Value × Nat) => cs.setIfInBounds (off + x.2) x.1) arr = (arr.toList.take off ++ v.cells.toList ++ arr.toList.drop (off + (cellsOfV u).length)).toArray := by
              have := fold_set v.cells.toList 0 off arr (by omega)
              rw [← Array.foldl_toList, Array.toList_zipIdx, this, Nat.add_zero, hcl]
            obtain ⟨arr', L2', e1, e2, e3, e4⟩ := ih (arr := (arr.toList.take off ++ v.cells.toList ++ arr.toList.drop (off + (cellsOfV u).length)).toArray) hput (fun y hy => by
                simp only [List.mem_append] at hy
                rcases hy with (hy | hy) | hy
                · exact h1 y (List.mem_of_mem_take hy)
                · exact hc2 y hy
                · exact h1 y (List.mem_of_mem_drop hy)) g2 hf
            refine ⟨arr', L2', ?_, e2, e3, fun x => by have := e4 x; have := c1 x; have := c2 x; simp only [List.count_append] at *; omega⟩
            simp only [List.zip_cons_cons, Instr.fill, hp]
            rw [if_neg (by simp; omega)]
            rw [← e1]
            congr 1
end
end Go.Proofs.YtkpdlbidadcdjaaDoor.Abs
