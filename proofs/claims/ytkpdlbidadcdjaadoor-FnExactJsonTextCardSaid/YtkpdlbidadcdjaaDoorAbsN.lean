/- Made slices, conversions, calls; then all operations, regions and code. No condition. -/
import Derived.Test.YtkpdlbidadcdjaaDoorAbsM
import Derived.Laws.BytesArg
set_option linter.unusedVariables false
set_option linter.unusedSimpArgs false
namespace Go.Proofs.YtkpdlbidadcdjaaDoor.Abs
open Go
section
variable {P : Program} {w : World} {Pr : Addr → Prop}
variable {C : Cx} {st : St} {a : Act} {w' : World} {Pr' : Addr → Prop} {b : List Nat} {xs : List AC} {vs : List Value} {m : Bool} {gd : Option Bool} {dst : Option Nat}
  {next : Act → World → Prop} {Q : Exit → Act → World → Prop} {k : AC → St → Prop} {o : Oper}

theorem s_makeSlice {t : TypeId} {x y : Operand} (ho : o.op = .makeSlice t x y) (h : SR C st a w Pr b xs vs) (hg : gOk gd) (hD : wD_makeSlice C.P C.fi m gd dst t x y st k) (hn : Goes C m st b a xs vs o.dst next k) :
    o.wp C.P a w next Q := by
  unfold wD_makeSlice at hD
  obtain ⟨u1, hk, r1⟩ := h.un hD hg
  obtain ⟨u2, hk, r2⟩ := h.un hk hg
  split at hk
  · rename_i td k1 n k2 c e htd _
    obtain ⟨hb, hpos, hk⟩ := hk
    obtain ⟨b0, b1, b2, b3⟩ := hb hg
    subst b1
    have hu := tdOf_slice htd
    split at hk
    · rename_i zs hz
      obtain ⟨hst, hfl, hzl, hk⟩ := hk
      obtain ⟨i, z, hi, hzz, rfl⟩ := info_of_zero hz
      simp only [share] at r1 r2
      generalize hv1 : a.eval x = z1 at r1
      generalize hv2 : a.eval y = z2 at r2
      cases r1; cases r2
      obtain ⟨Le, Ll, Lx, Lk, h0⟩ := h
      have hzsz : z.cells.size = C.P.cellsOf e := by simpa using hzl
      have hsz : C.P.cellsOf e = i.size := cellsOf_info hi
      have hbz : C.P.bytesOf e = i.bytes := by simp [Program.bytesOf, hi]
      have hreps : Reps C.P w Pr [] (List.replicate n.toNat (z.cells.toList.map ofV)).flatten ((Array.range (n.toNat * z.cells.size)).map fun j => z.cells[j % z.cells.size]!).toList [] := by
        rw [range_mod]; exact reps_replicate (reps_ofV _) _
      refine wp_val (v := .slice (some ⟨w.heap.size, 0, none⟩) n.toNat n.toNat) (w' := w.alloc (.cells ((Array.range (n.toNat * z.cells.size)).map fun j => z.cells[j % z.cells.size]!) e)) ?_
        (hn _ _ _ _ _ _ hk (SR.newRow (C.fi.keeps dst) h0 hreps (by rw [range_mod]; exact replicate_one (storable_all hst) _) hpos (by simp [hzsz]) (by omega) (fun x => by have := h0.cnt x; simp only [List.count_nil]; omega) (fun x hx => by simp at hx)) fun e => ⟨rfl, rfl⟩)
      rw [hbz] at b3
      have hr := run_make (P := C.P) w t e i z hu hi hzz k1 k2 n n b0 (Int.le_refl _) b3 (by unfold maxLen at b2; omega)
      rw [← hsz, ← hzsz] at hr
      simp only [execOp, ho, hv1, hv2, Sem.run_bind, hr, Result.andThen_ok, Sem.run_pure, madeCells]
    · exact hk.elim
  · exact hk.elim

theorem bytesOf_rep {bl : List (List Nat)} : ∀ {cells : List AC} {vals : List Value} {bs : List UInt8} {L : List Nat}, Reps P w Pr bl cells vals L → bytesOf cells = some bs →
    ∃ ns : List Int, vals = ns.map (Value.int .u8) ∧ bs = ns.map fun n => UInt8.ofNat n.toNat := by
  intro cells
  induction cells with
  | nil => intro vals bs L h hb; cases h; simp only [bytesOf, Option.some.injEq] at hb; subst hb; exact ⟨[], rfl, rfl⟩
  | cons c cs ih =>
    intro vals bs L h hb
    cases h with
    | cons h1 h2 =>
      unfold bytesOf at hb
      split at hb
      · rename_i e; cases e
      · rename_i n r e
        cases e
        rw [Option.map_eq_some_iff] at hb
        obtain ⟨bs', hb', rfl⟩ := hb
        obtain ⟨ns, rfl, rfl⟩ := ih h2 hb'
        cases h1
        exact ⟨n :: ns, rfl, rfl⟩
      · cases hb

theorem foldl_push (ns : List Int) : ∀ r : ByteArray, (ns.foldl (fun r n => r.push (UInt8.ofNat n.toNat)) r).data.toList = r.data.toList ++ ns.map fun n => UInt8.ofNat n.toNat := by
  induction ns with
  | nil => intro r; simp
  | cons n ns ih =>
    intro r
    rw [List.foldl_cons, ih]
    obtain ⟨d⟩ := r
    simp [ByteArray.push]

theorem s_convert {src tgt : TypeId} {x : Operand} (ho : o.op = .convert src tgt x) (h : SR C st a w Pr b xs vs) (hg : gOk gd) (hD : wD_convert C.P C.fi m gd dst src tgt x st k) (hn : Goes C m st b a xs vs o.dst next k) :
    o.wp C.P a w next Q := by
  unfold wD_convert at hD
  obtain ⟨u, hk, hrep, hr1⟩ := un_share hD hg
  have hr := hr1 (h.ev x)
  clear hr1
  unfold wConv at hk
  split at hk
  · rename_i j2 j j3 n h1 h2
    have hu1 := tdOf_int h1
    have hu2 := tdOf_int h2
    simp only [share] at hr
    generalize hv : a.eval x = z at hr
    cases hr
    refine wp_quiet h hn hk .int ?_
    simp [execOp, ho, convert, run_underlying hu1, run_underlying hu2, hv, Conv.intToInt]
  · rename_i s h1 h2
    have hu1 := tdOf_str h1
    have hu2 := tdOf_str h2
    simp only [share] at hr
    refine wp_quiet h hn hk hr ?_
    generalize hv : a.eval x = z at hr
    cases hr
    simp [execOp, ho, convert, run_underlying hu1, run_underlying hu2, hv]
  · rename_i e ow n cells h1 h2
    split at hk
    · rename_i bs hb he
      obtain ⟨hl, hm, hk⟩ := hk
      have hu1 := tdOf_slice h1
      have hu2 := tdOf_str h2
      have hu3 := tdOf_int he
      obtain ⟨L, hf⟩ := h.full x
      have hr := hrep hf
      generalize hv : a.eval x = z at hr
      rcases rep_src hr with ⟨cap, rfl, rfl, rfl⟩ | ⟨p, cap, vals, L', rfl, g1, _, g2, g3⟩
      · simp only [bytesOf, Option.some.injEq] at hb
        subst hb
        refine wp_quiet (v := .string .empty) h hn hk (.str rfl (by simp [maxLen])) ?_
        simp [execOp, ho, convert, run_underlying hu1, run_underlying hu2, run_underlying hu3, hv, Conv.bytesToString]
      · obtain ⟨ns, rfl, rfl⟩ := bytesOf_rep g1 hb
        have hld := run_loadCells_list (P := C.P) w p _ (fun j v hj => g3 j v hj)
        have hnl : (ns.map (Value.int .u8)).length = n := by simpa using hl
        rw [hnl] at hld
        have hr := run_bytesToString (P := C.P) w p n cap ns hld
        refine wp_quiet h hn hk (.str ((foldl_push ns ByteArray.empty).trans (show [] ++ _ = _ from List.nil_append _)) hm) ?_
        simp only [execOp, ho, convert, Sem.run_bind, run_underlying hu1, run_underlying hu2, run_underlying hu3, Result.andThen_ok, hv, hr, Sem.run_pure]
    · exact hk.elim
  · exact hk.elim

theorem RepK.length {K : List (List (List AC))} {bl : List (List Nat)} {L : List Nat} (h : RepK P w Pr K bl L) : ∀ (u : Nat) (f : List (List AC)) (b' : List Nat), K[u]? = some f → bl[u]? = some b' → f.length = b'.length := by
  induction K generalizing bl L with
  | nil => intro u f b' hu; simp at hu
  | cons g K ih =>
    obtain ⟨b, bl', L1, L2, rfl, hF, hK, rfl⟩ := h
    intro u f b' hu hb
    cases u with
    | zero =>
      simp only [List.getElem?_cons_zero, Option.some.injEq] at hu hb
      subst hu; subst hb
      exact hF.length
    | succ u =>
      simp only [List.getElem?_cons_succ] at hu hb
      exact ih hK u f b' hu hb

theorem RepK.cons_inv {K : List (List (List AC))} {b : List Nat} {bl : List (List Nat)} {L : List Nat} (h : RepK P w Pr K (b :: bl) L) : ∃ f K0, K = f :: K0 := by
  cases K with
  | nil => have := h.1; cases this
  | cons f K0 => exact ⟨f, K0, rfl⟩

theorem wXs_sound (h : SR C st a w Pr b xs vs) (hg : gOk gd) : ∀ {l : List Operand} {k : List AC → Prop}, wXs gd st l k → ∃ us, k us ∧ Reps C.P w Pr (b :: C.bl0) us (l.map a.eval) [] := by
  intro l
  induction l with
  | nil => intro k hk; exact ⟨[], hk, .nil⟩
  | cons x l ih =>
    intro k hk
    obtain ⟨u, hk, hr⟩ := h.un hk hg
    obtain ⟨us, hk, hrs⟩ := ih hk
    exact ⟨_, hk, Reps.cons (L := []) (M := []) hr hrs⟩

/-- What is borrowed. -/
theorem borrow_sound {x : Operand} {kk : AC → (AC → Bool) → (AC → St) → Prop} {Le Ll Lx Lk : List Nat} (h : SRL C st a w Pr b xs vs Le Ll Lx Lk) (hb : wBorrow st x kk) :
    ∃ (v : AC) (ok : AC → Bool) (put : AC → St) (La Lr : List Nat), kk v ok put ∧ Rep C.P w Pr (b :: C.bl0) v (a.eval x) La ∧ (∀ y, La.count y + Lr.count y = Le.count y + Ll.count y) ∧ ∀ u, ok u = true → (put u).K = st.K ∧
      (((put u).env.map (·.1)).Nodup ∧ ∀ j ∈ (put u).env.map (·.1), C.fi.isVar j = true) ∧ (((put u).loc.map (·.1)).Nodup ∧ ∀ j ∈ (put u).loc.map (·.1), C.fi.isVar j = false) ∧
      ∀ (w' : World) (Pr' : Addr → Prop) (b' : List Nat) (L' : List Nat), (∀ c z M, Rep C.P w Pr (b :: C.bl0) c z M → (∀ g ∈ M, g ∈ Lr) → Rep C.P w' Pr' (b' :: C.bl0) c z M) →
        (∀ p, Pr p → Pr' p ∧ w'.cell? p = w.cell? p) → (∀ g ∈ Lr, Kept w Pr w' Pr' g) →
        Rep C.P w' Pr' (b' :: C.bl0) u (a.eval x) L' → ∃ Le' Ll', RepE C.P w' Pr' (b' :: C.bl0) a.tmps (put u).env Le' ∧ RepE C.P w' Pr' (b' :: C.bl0) a.tmps (put u).loc Ll' ∧ ∀ y, Le'.count y + Ll'.count y = Lr.count y + L'.count y := by
  unfold wBorrow at hb
  split at hb
  · rename_i s
    have hev : ∀ s' oo y nn, st.get s = .als s' oo y nn → a.eval (.tmp s) = y := by
      intro s' oo y nn e
      obtain ⟨L, hr, _⟩ := h.get s
      rw [e] at hr
      simp only [Act.eval]
      generalize a.tmps.getD s undef = z at hr
      cases hr <;> rfl
    split at hb
    · rename_i s' y nn hs
      have hx := hev _ _ _ _ hs
      split at hb
      · rename_i y' v hs'
        obtain ⟨rfl, hb⟩ := hb
        obtain ⟨xv, Lv, Lr, hxv, hrs, hLc, hset⟩ := h.slot hs' (by simp)
        have hval := hrs.nam_val
        have hrs := hrs.nam_inv
        refine ⟨v, _, _, Lv, Lr, hb, by rw [hx, hval]; exact hrs, hLc, fun u _ => ?_⟩
        obtain ⟨eK, kE, kL, hset⟩ := hset (.nam y' u)
        refine ⟨eK, kE, kL, fun w' Pr' b' L' hkp hp hkept hru => ?_⟩
        exact hset w' Pr' _ L' hkp (by rw [hx] at hru; rw [hval] at hru ⊢; exact .nam hru)
      · exact hb.elim
    · rename_i s' o y nn hs
      have hx := hev _ _ _ _ hs
      split at hb
      · rename_i y' e n cs hs'
        split at hb
        · rename_i z v hco
          obtain ⟨rfl, hb⟩ := hb
          obtain ⟨xv, Lv, Lr, hxv, hrs, hLc, hset⟩ := h.slot hs' (by simp)
          have hval := hrs.nam_val
          have hrs := hrs.nam_inv
          subst hval
          cases hrs with
          | slEx hcs h1 hh hcap hmax hpose hsz htk hpr =>
            rename_i vals g cap L0 cur
            obtain ⟨v0, Li, L1, hv0, hr0, hc0, hput⟩ := hcs.takeAt hco
            have hz := hr0.nam_val
            subst hz
            refine ⟨v, _, _, Li, (g :: L1) ++ Lr, hb, by rw [hx]; exact hr0.nam_inv.nilbl, fun y => by have := hc0 y; have := hLc y; simp only [List.count_append, List.count_cons] at *; omega, fun u hu => ?_⟩
            obtain ⟨eK, kE, kL, hset⟩ := hset (.nam (.slice (some ⟨g, 0, none⟩) n cap) (.sl (.ex e) n (cs.set o u)))
            refine ⟨eK, kE, kL, fun w' Pr' b' L' hkp hp hkept hru => ?_⟩
            have hru0 : Rep C.P w' Pr' [] u z L' := by rw [hx] at hru; exact hru.flat hu
            -- the other cells
            have hcs2 : ∃ L2, Reps C.P w' Pr' [] (cs.set o u) vals L2 ∧ ∀ y, L2.count y = L1.count y + L'.count y := by
              obtain ⟨Lh, hh1, hh2⟩ := hput .undef [] .undef
              have hh1' := hh1.kept hp (fun x hx => hkept x (List.mem_append_left _ (List.mem_cons_of_mem _ (List.count_pos_iff.1 (by have := hh2 x; have := List.count_pos_iff.2 hx; simp only [List.count_nil] at *; omega)))))
              obtain ⟨v9, Li9, L9, q1, q2, q3, q4⟩ := hh1'.takeAt (i := o) (c := .undef) (by rw [List.getElem?_set_self (List.getElem?_eq_some_iff.1 hco).1])
              have hv9 : v9 = z := by rw [hv0] at q1; cases q1; rfl
              subst hv9
              obtain ⟨L2, r1, r2⟩ := q4 u L' hru0
              rw [List.set_set] at r1
              refine ⟨L2, r1, fun y => ?_⟩
              have hz9 : Li9 = [] := by cases q2; rfl
              subst hz9
              have := r2 y; have := q3 y; have := hh2 y
              simp only [List.count_nil] at *; omega
            obtain ⟨L2, k1, k2⟩ := hcs2
            have hkg := hkept g (List.mem_append_left _ List.mem_cons_self)
            have hnew : Rep C.P w' Pr' (b' :: C.bl0) (.nam (.slice (some ⟨g, 0, none⟩) n cap) (.sl (.ex e) n (cs.set o u))) (.slice (some ⟨g, 0, none⟩) n cap) (g :: L2) :=
              .nam (.slEx k1 h1 (hkg.heap.trans hh) hcap hmax hpose hsz htk (fun q hq hqb => hpr q (hkg.pr q hq hqb) hqb))
            obtain ⟨Le', Ll', g1, g2, g3⟩ := hset w' Pr' _ _ (fun c z M hM hin => hkp c z M hM fun x hx => List.mem_append_right _ (hin x hx)) hnew
            exact ⟨Le', Ll', g1, g2, fun y => by have := g3 y; have := k2 y; simp only [List.count_append, List.count_cons] at *; omega⟩
          | slNil => simp at hco
        · exact hb.elim
      · rename_i y' cs hs'
        split at hb
        · rename_i z v hco
          obtain ⟨rfl, hb⟩ := hb
          obtain ⟨xv, Lv, Lr, hxv, hrs, hLc, hset⟩ := h.slot hs' (by simp)
          have hval := hrs.nam_val
          have hrs := hrs.nam_inv
          subst hval
          cases hrs with
          | agg hcs h1 =>
            rename_i vals
            obtain ⟨v0, Li, L1, hv0, hr0, hc0, hput⟩ := hcs.takeAt hco
            have hz := hr0.nam_val
            subst hz
            refine ⟨v, _, _, Li, L1 ++ Lr, hb, by rw [hx]; exact hr0.nam_inv, fun y => by have := hc0 y; have := hLc y; simp only [List.count_append] at *; omega, fun u hu => ?_⟩
            obtain ⟨eK, kE, kL, hset⟩ := hset (.nam (.agg vals.toArray) (.agg (cs.set o u)))
            refine ⟨eK, kE, kL, fun w' Pr' b' L' hkp hp hkept hru => ?_⟩
            have hru0 : Rep C.P w' Pr' (b' :: C.bl0) u z L' := by rw [hx] at hru; exact hru
            have hcs2 : ∃ L2, Reps C.P w' Pr' (b' :: C.bl0) (cs.set o u) vals L2 ∧ ∀ y, L2.count y = L1.count y + L'.count y := by
              obtain ⟨Lh, hh1, hh2⟩ := hput .undef [] .undef
              have hh1' : Reps C.P w' Pr' (b' :: C.bl0) (cs.set o .undef) vals Lh := by
                have := hkp (.agg (cs.set o .undef)) (.agg vals.toArray) Lh (.agg hh1 h1) (fun x hx => List.mem_append_left _ (List.count_pos_iff.1 (by have := hh2 x; have := List.count_pos_iff.2 hx; simp only [List.count_nil] at *; omega)))
                generalize hq : Value.agg vals.toArray = q at this
                cases this with
                | agg hx hx9 =>
                  rename_i vals2
                  have e9 : vals = vals2 := by simpa using hq
                  rw [e9]; exact hx
              obtain ⟨v9, Li9, L9, q1, q2, q3, q4⟩ := hh1'.takeAt (i := o) (c := .undef) (by rw [List.getElem?_set_self (List.getElem?_eq_some_iff.1 hco).1])
              have hv9 : v9 = z := by rw [hv0] at q1; cases q1; rfl
              subst hv9
              obtain ⟨L2, r1, r2⟩ := q4 u L' hru0
              rw [List.set_set] at r1
              refine ⟨L2, r1, fun y => ?_⟩
              have hz9 : Li9 = [] := by cases q2; rfl
              subst hz9
              have := r2 y; have := q3 y; have := hh2 y
              simp only [List.count_nil] at *; omega
            obtain ⟨L2, k1, k2⟩ := hcs2
            obtain ⟨Le', Ll', g1, g2, g3⟩ := hset w' Pr' _ _ (fun c z M hM hin => hkp c z M hM fun x hx => List.mem_append_right _ (hin x hx)) (.nam (.agg k1 h1))
            exact ⟨Le', Ll', g1, g2, fun y => by have := g3 y; have := k2 y; simp only [List.count_append] at *; omega⟩
        · exact hb.elim
      · exact hb.elim
    · rename_i y v hs
      obtain ⟨xv, Lv, Lr, hxv, hrs, hLc, hset⟩ := h.slot hs (by simp)
      have hval := hrs.nam_val
      have hrs := hrs.nam_inv
      have hx : a.eval (.tmp s) = y := by
        simp only [Act.eval]
        rw [hval]
        simp [Array.getD_eq_getD_getElem?, hxv]
      refine ⟨v, _, _, Lv, Lr, hb, by rw [hx, hval]; exact hrs, hLc, fun u _ => ?_⟩
      obtain ⟨eK, kE, kL, hset⟩ := hset (.nam y u)
      refine ⟨eK, kE, kL, fun w' Pr' b' L' hkp hp hkept hru => ?_⟩
      exact hset w' Pr' _ L' hkp (by rw [hx] at hru; rw [hval] at hru ⊢; exact .nam hru)
    · exact hb.elim
  · exact hb.elim

/-- A call by its contract. -/
theorem call_sound {f : FuncId} {us : List AC} {vals : List Value} {r : AC} {K' : List (List (List AC))} {La Le Ll Lx Lk : List Nat}
    (hct : Ct C.P f us st.K r K') (hus : Reps C.P w Pr (b :: C.bl0) us vals La) (h : SRL C st a w Pr b xs vs Le Ll Lx Lk)
    (hcnt : ∀ x, La.count x + Le.count x + Ll.count x + Lx.count x + Lk.count x + (b :: C.bl0).flatten.count x ≤ 1) (hnew : ∀ x, 0 < La.count x → x ∈ C.F ∨ C.w0.heap.size ≤ x)
    (hn : ∀ v w' Pr' b', SR C { st with K := K' } a w' Pr' b' (r :: xs) (v :: vs) → (K' = st.K → b' = b) → next (a.put o.dst v) w')
    (hrun : (execOp a.eval o).run C.P w = .ok (.enter f vals.toArray) w) : o.wp C.P a w next Q := by
  unfold Oper.wp
  rw [hrun]
  show Calls C.P f vals.toArray w _
  have hall : ∀ x, (La ++ Lk ++ (b :: C.bl0).flatten).count x ≤ 1 := fun x => by
    have := hcnt x; simp only [List.count_append]; omega
  refine (hct.2 w Pr (b :: C.bl0) vals La Lk hus h.K hall h.prlt (C.tab.kept h.since.prot)).mono ?_
  rintro e w' ⟨v, Pr', Lr, Lk', bl', rfl, hext, hr, hK', hc', hn', hprlt, hs⟩
  have hF : ∀ x, x ∈ La ++ Lk ++ (b :: C.bl0).flatten → x ∈ C.F ∨ C.w0.heap.size ≤ x := by
    intro x hx
    have := List.count_pos_iff.2 hx
    simp only [List.count_append] at this
    by_cases h0 : 0 < La.count x
    · exact hnew x h0
    · exact h.new x (by omega)
  have hlt : ∀ x, x ∈ La ++ Lk ++ (b :: C.bl0).flatten → x < w.heap.size := by
    intro x hx
    rcases List.mem_append.1 hx with hx | hx
    · rcases List.mem_append.1 hx with hx | hx
      · exact hus.own_lt x hx
      · exact h.K.own_lt x hx
    · exact h.K.box_lt x hx
  have hk : ∀ x, 0 < Le.count x + Ll.count x + Lx.count x → x < w.heap.size → Kept w Pr w' Pr' x := by
    intro x hx hxl
    have hnm : x ∉ La ++ Lk ++ (b :: C.bl0).flatten := by
      intro hm
      have := List.count_pos_iff.2 hm
      have := hcnt x
      simp only [List.count_append] at *
      omega
    exact ⟨hs.block x hxl hnm, fun p hp e => by
      rcases hs.newPr p hp with h1 | h1 | h1
      · exact h1
      · rw [e] at h1; exact absurd h1 hnm
      · rw [e] at h1; omega⟩
  have hs0 := h.since
  have hb' : ∃ b', bl' = b' :: C.bl0 ∧ (∃ gs, b' = b ++ gs ∧ ∀ g ∈ gs, w.heap.size ≤ g) := by
    rcases hext with rfl | ⟨b1, r1, gs, e1, e2, e3⟩
    · exact ⟨b, rfl, [], by simp, by simp⟩
    · cases e1; exact ⟨b ++ gs, e2, gs, rfl, e3⟩
  obtain ⟨b', rfl, gs, rfl, hgs⟩ := hb'
  refine hn v w' Pr' (b ++ gs) ⟨Le, Ll, Lr ++ Lx, Lk', ⟨?_, ?_, ?_, hK', fun x => ?_, fun x hx => ?_, h.kE, h.kL, hprlt, ⟨hs.os.trans hs0.os, hs.tape.trans hs0.tape, hs.output.trans hs0.output, Nat.le_trans hs0.size hs.size, fun x hx hxF => ?_, fun p hp => ?_, fun p hp => ?_⟩, h.defers, h.size⟩⟩ ?_
  · exact (h.env.kept hs.prot (fun x hx => hk x (by have := List.count_pos_iff.2 hx; omega) (h.env.own_lt x hx))).ext
  · exact (h.loc.kept hs.prot (fun x hx => hk x (by have := List.count_pos_iff.2 hx; omega) (h.loc.own_lt x hx))).ext
  · exact Reps.cons hr ((h.reg.kept hs.prot (fun x hx => hk x (by have := List.count_pos_iff.2 hx; omega) (h.reg.own_lt x hx))).ext)
  · -- counts
    have c1 := hc' x
    have c2 := hcnt x
    simp only [List.count_append] at c1 ⊢
    by_cases hold : 0 < Le.count x + Ll.count x + Lx.count x
    · have hxl : x < w.heap.size := by
        by_cases q1 : 0 < Le.count x
        · exact h.env.own_lt x (List.count_pos_iff.1 q1)
        · by_cases q2 : 0 < Ll.count x
          · exact h.loc.own_lt x (List.count_pos_iff.1 q2)
          · exact h.reg.own_lt x (List.count_pos_iff.1 (by omega))
      have z1 : (Lr ++ Lk').count x = 0 := by
        refine List.count_eq_zero.2 fun hm => ?_
        rcases hn' x hm with hm | hm
        · have := List.count_pos_iff.2 hm; simp only [List.count_append] at this; omega
        · omega
      have z2 : gs.count x = 0 := List.count_eq_zero.2 fun hm => by have := hgs x hm; omega
      simp only [List.count_append, List.flatten_cons] at *
      omega
    · omega
  · simp only [List.count_append, List.flatten_cons] at hx
    by_cases hold : 0 < Le.count x + Ll.count x + Lx.count x + (b ++ C.bl0.flatten).count x
    · refine h.new x ?_
      simp only [List.count_append, List.flatten_cons] at *
      omega
    · by_cases hg : 0 < gs.count x
      · have := hgs x (List.count_pos_iff.1 hg)
        right; have := hs0.size; omega
      · have hm : x ∈ Lr ++ Lk' := List.count_pos_iff.1 (by simp only [List.count_append] at *; omega)
        rcases hn' x hm with hm | hm
        · exact hF x (List.mem_append_left _ hm)
        · right; have := hs0.size; omega
  · exact (hs.block x (by have := hs0.size; omega) (fun hm => by rcases hF x hm with h1 | h1; exact hxF h1; omega)).trans (hs0.block x hx hxF)
  · have h1 := hs0.prot p hp
    have h2 := hs.prot p h1.1
    exact ⟨h2.1, h2.2.trans h1.2⟩
  · rcases hs.newPr p hp with h1 | h1 | h1
    · exact hs0.newPr p h1
    · exact .inr (hF _ h1)
    · right; right; have := hs0.size; omega
  · intro e
    rw [e] at hK'
    obtain ⟨f0, K0, hf⟩ := h.K.cons_inv
    have l1 := h.K.length 0 f0 b (by rw [hf]; rfl) rfl
    have l2 := hK'.length 0 f0 (b ++ gs) (by rw [hf]; rfl) rfl
    have : gs = [] := List.eq_nil_of_length_eq_zero (by simp at l2; omega)
    rw [this, List.append_nil]

theorem callB_sound {c : Call} {fo : Operand} {f : FuncId} (ho : o.op = .call c) (hcal : c.callee = .value fo) (hv : a.eval fo = .func (.func f) #[] #[]) (h : SR C st a w Pr b xs vs) (hg : gOk gd) (hm : m = true)
    (hk : callB C.P gd f c.args.toList k st) (hn : Goes C m st b a xs vs o.dst next k) : o.wp C.P a w next Q := by
  unfold callB at hk
  split at hk
  · rename_i x xs' hargs
    have hS := h
    obtain ⟨Le, Ll, Lx, Lk, h⟩ := h
    obtain ⟨v, ok, put, La, Lr, hk, hrv, hLc, hput⟩ := borrow_sound h hk
    obtain ⟨us, hk, hrs⟩ := wXs_sound hS hg hk
    obtain ⟨r, K', back, hct, hok, hk⟩ := hk
    obtain ⟨eK, kE, kL, hput⟩ := hput back hok
    have hus : Reps C.P w Pr (b :: C.bl0) (v :: us) (a.eval x :: xs'.map a.eval) La := by simpa using Reps.cons hrv hrs
    have hrun : (execOp a.eval o).run C.P w = .ok (.enter f (a.eval x :: xs'.map a.eval).toArray) w := by
      obtain ⟨⟨fn, h1, h2, h3⟩, _⟩ := hct
      have h2' : fn.body.isNone = false := by cases hb : fn.body <;> simp [hb] at h2 ⊢
      have e1 : c.args.map a.eval = (a.eval x :: xs'.map a.eval).toArray := by
        apply Array.ext'; simp [hargs]
      simp only [execOp, ho, Sem.run_bind, resolve, hcal, Deferred.ofValue, hv, Sem.run_pure, Result.andThen_ok, invoke, callFunc, run_program, h1, h3, h2', Bool.false_eq_true, if_false, e1, Array.empty_append, Array.append_empty]
    unfold Oper.wp
    rw [hrun]
    show Calls C.P f (a.eval x :: xs'.map a.eval).toArray w _
    have hcnt : ∀ x, La.count x + Lr.count x + Lx.count x + Lk.count x + (b :: C.bl0).flatten.count x ≤ 1 := fun x => by have := h.cnt x; have := hLc x; omega
    have hnew : ∀ x, 0 < La.count x + Lr.count x + Lx.count x + Lk.count x + (b :: C.bl0).flatten.count x → x ∈ C.F ∨ C.w0.heap.size ≤ x := fun x hx => h.new x (by have := hLc x; omega)
    have hLalt : ∀ x ∈ La, x < w.heap.size := fun x hx => hrv.own_lt x hx
    have hLrlt : ∀ x ∈ Lr, x < w.heap.size := fun x hx => by
      have := List.count_pos_iff.2 hx
      have := hLc x
      by_cases q1 : 0 < Le.count x
      · exact h.env.own_lt x (List.count_pos_iff.1 q1)
      · exact h.loc.own_lt x (List.count_pos_iff.1 (by omega))
    have hall : ∀ x, (La ++ Lk ++ (b :: C.bl0).flatten).count x ≤ 1 := fun x => by
      have := hcnt x; simp only [List.count_append]; omega
    refine (hct.2 w Pr (b :: C.bl0) _ _ La Lk hus h.K hall h.prlt (C.tab.kept h.since.prot)).mono ?_
    rintro e w' ⟨v', Pr', Lr', Lb, Lk', bl', rfl, hext, hr, hback, hK', hc', hn', hprlt, hs⟩
    have hF : ∀ x, x ∈ La ++ Lk ++ (b :: C.bl0).flatten → x ∈ C.F ∨ C.w0.heap.size ≤ x := by
      intro x hx
      have := List.count_pos_iff.2 hx
      simp only [List.count_append] at this
      exact hnew x (by omega)
    have hkk : ∀ x, 0 < Lr.count x + Lx.count x → x < w.heap.size → Kept w Pr w' Pr' x := by
      intro x hx hxl
      have hnm : x ∉ La ++ Lk ++ (b :: C.bl0).flatten := by
        intro hm
        have := List.count_pos_iff.2 hm
        have := hcnt x
        simp only [List.count_append] at *
        omega
      exact ⟨hs.block x hxl hnm, fun p hp e => by
        rcases hs.newPr p hp with h1 | h1 | h1
        · exact h1
        · rw [e] at h1; exact absurd h1 hnm
        · rw [e] at h1; omega⟩
    have hs0 := h.since
    have hb' : ∃ b', bl' = b' :: C.bl0 ∧ (∃ gs, b' = b ++ gs ∧ ∀ g ∈ gs, w.heap.size ≤ g) := by
      rcases hext with rfl | ⟨b1, r1, gs, e1, e2, e3⟩
      · exact ⟨b, rfl, [], by simp, by simp⟩
      · cases e1; exact ⟨b ++ gs, e2, gs, rfl, e3⟩
    obtain ⟨b', rfl, gs, rfl, hgs⟩ := hb'
    obtain ⟨Le', Ll', g1, g2, g3⟩ := hput w' Pr' (b ++ gs) Lb (fun c z M hM hin => (hM.kept hs.prot fun x hx => hkk x (by have := List.count_pos_iff.2 (hin x hx); omega) (hLrlt x (hin x hx))).ext)
      hs.prot (fun x hx => hkk x (by have := List.count_pos_iff.2 hx; omega) (hLrlt x hx)) hback
    show next (a.put o.dst v') w'
    refine hn r { put back with K := K' } v' w' Pr' (b ++ gs) hk ⟨Le', Ll', Lr' ++ Lx, Lk', ⟨g1, g2, ?_, hK', fun x => ?_, fun x hx => ?_, kE, kL, hprlt, ⟨hs.os.trans hs0.os, hs.tape.trans hs0.tape, hs.output.trans hs0.output, Nat.le_trans hs0.size hs.size, fun x hx hxF => ?_, fun p hp => ?_, fun p hp => ?_⟩, h.defers, h.size⟩⟩ (fun e => by rw [hm] at e; cases e)
    · exact Reps.cons hr ((h.reg.kept hs.prot (fun x hx => hkk x (by have := List.count_pos_iff.2 hx; omega) (h.reg.own_lt x hx))).ext)
    · have c1 := hc' x
      have c2 := hcnt x
      have c3 := g3 x
      simp only [List.count_append] at c1 ⊢
      by_cases hold : 0 < Lr.count x + Lx.count x
      · have hxl : x < w.heap.size := by
          by_cases q1 : 0 < Lr.count x
          · exact hLrlt x (List.count_pos_iff.1 q1)
          · exact h.reg.own_lt x (List.count_pos_iff.1 (by omega))
        have z1 : (Lr' ++ Lb ++ Lk').count x = 0 := by
          refine List.count_eq_zero.2 fun hm => ?_
          rcases hn' x hm with hm | hm
          · have := List.count_pos_iff.2 hm; simp only [List.count_append] at this; omega
          · omega
        have z2 : gs.count x = 0 := List.count_eq_zero.2 fun hm => by have := hgs x hm; omega
        simp only [List.count_append, List.flatten_cons] at *
        omega
      · omega
    · have c3 := g3 x
      simp only [List.count_append, List.flatten_cons] at hx
      by_cases hold : 0 < Lr.count x + Lx.count x + (b ++ C.bl0.flatten).count x
      · refine hnew x ?_
        simp only [List.count_append, List.flatten_cons] at *
        omega
      · by_cases hg' : 0 < gs.count x
        · have := hgs x (List.count_pos_iff.1 hg')
          right; have := hs0.size; omega
        · have hm : x ∈ Lr' ++ Lb ++ Lk' := List.count_pos_iff.1 (by simp only [List.count_append] at *; omega)
          rcases hn' x hm with hm | hm
          · exact hF x (List.mem_append_left _ hm)
          · right; have := hs0.size; omega
    · exact (hs.block x (by have := hs0.size; omega) (fun hm => by rcases hF x hm with h1 | h1; exact hxF h1; omega)).trans (hs0.block x hx hxF)
    · have h1 := hs0.prot p hp
      have h2 := hs.prot p h1.1
      exact ⟨h2.1, h2.2.trans h1.2⟩
    · rcases hs.newPr p hp with h1 | h1 | h1
      · exact hs0.newPr p h1
      · exact .inr (hF _ h1)
      · right; right; have := hs0.size; omega
  · exact hk.elim

theorem s_call {c : Call} (ho : o.op = .call c) (h : SR C st a w Pr b xs vs) (hg : gOk gd) (hD : wD_call C.P C.fi m gd o.dst c st k) (hn : Goes C m st b a xs vs o.dst next k) : o.wp C.P a w next Q := by
  unfold wD_call wCall at hD
  split at hD
  · rename_i fo hcal
    obtain ⟨u, hk, hr⟩ := h.un hD hg
    split at hk
    · rename_i f caps
      split at hk
      · rename_i hbw
        obtain ⟨rfl, hk⟩ := hk
        simp only [share] at hr
        generalize hv : a.eval fo = z at hr
        have hz : z = .func (.func f) #[] #[] := by
          cases hr with
          | fn h0 h1 => cases h1; rfl
        subst hz
        exact callB_sound ho hcal hv h hg (by simp at hbw; exact hbw.1) hk hn
      obtain ⟨us, st', hk, hS, hK, hm⟩ := h.wTs hk hg
      simp only [share] at hr
      generalize hv : a.eval fo = z at hr
      have hz : ∃ cv, z = .func (.func f) #[] cv.toArray ∧ Reps C.P w Pr (b :: C.bl0) caps cv [] := by
        cases hr with
        | fn h0 h1 => exact ⟨_, rfl, h1⟩
      obtain ⟨cv, rfl, hcv⟩ := hz
      have hul : us.length = (c.args.toList.map a.eval).length := by
        obtain ⟨Le, Ll, Lx, Lk, h0⟩ := hS
        have := h0.reg.length
        have h1 := h
        obtain ⟨_, _, _, _, h1⟩ := h1
        have h2 := h1.reg.length
        simp only [List.length_append, List.length_reverse] at this
        omega
      obtain ⟨Lu, Le, Ll, Lx, Lk, hu1, h0, hc, hn1⟩ := hS.out hul
      have hargs := hu1.append hcv
      rw [List.append_nil] at hargs
      have hrun : ∀ K r K', Ct C.P f (us ++ caps) K r K' → (execOp a.eval o).run C.P w = .ok (.enter f ((c.args.toList.map a.eval) ++ cv).toArray) w := by
        rintro K r K' ⟨⟨fn, h1, h2, h3⟩, _⟩
        have h2' : fn.body.isNone = false := by cases hb : fn.body <;> simp [hb] at h2 ⊢
        have e1 : c.args.map a.eval ++ cv.toArray = ((c.args.toList.map a.eval) ++ cv).toArray := by
          apply Array.ext'; simp
        have e0 : (#[] : Array Value) ++ Array.map a.eval c.args ++ cv.toArray = ((c.args.toList.map a.eval) ++ cv).toArray := by rw [Array.empty_append]; exact e1
        simp only [execOp, ho, Sem.run_bind, resolve, hcal, Deferred.ofValue, hv, Sem.run_pure, Result.andThen_ok, invoke, callFunc, run_program, h1, h3, h2', Bool.false_eq_true, if_false, e0]
      unfold callK at hk
      cases m with
      | true =>
        simp only [if_true] at hk
        obtain ⟨r, K', hct, hk⟩ := hk
        exact call_sound hct hargs h0 hc hn1 (fun v w' Pr' b' hS' _ => hn _ _ _ _ _ _ hk hS' fun e => by cases e) (hrun _ _ _ hct)
      | false =>
        simp only [Bool.false_eq_true, if_false] at hk
        obtain ⟨r, hct, hk⟩ := hk
        have hct := hct hg
        exact call_sound hct hargs h0 hc hn1 (fun v w' Pr' b' hS' hb => hn _ _ _ _ _ _ hk hS' fun _ => ⟨hm rfl, hb rfl⟩) (hrun _ _ _ hct)
    · exact hk.elim
  · rename_i bi hcal
    unfold wBuiltin at hD
    obtain ⟨callee, args, ts⟩ := c
    simp only at hcal hD
    subst hcal
    split at hD
    · rename_i x t ts' hargs hts
      obtain rfl : args = #[x] := by rw [← Array.toList_inj]; exact hargs
      exact s_len ho (by rw [← Array.getElem?_toList, hts]; rfl) h hg hD hn
    · rename_i s x t t' hargs hts
      obtain rfl : args = #[.tmp s, x] := by rw [← Array.toList_inj]; exact hargs
      obtain rfl : ts = #[t, t'] := by rw [← Array.toList_inj]; exact hts
      obtain ⟨hm, hD⟩ := hD
      split at hD
      · rename_i htd; exact s_appendS ho h hg htd hm hD hn
      · obtain ⟨rfl, hD⟩ := hD
        exact s_append ho h hg hm hD hn
    · exact hD.elim
  · exact hD.elim

/-- Any operation. -/
theorem wDo_sound (h : SR C st a w Pr b xs vs) (hg : gOk gd) (hD : wDo C.P C.fi m gd o.dst o.op st k) (hn : Goes C m st b a xs vs o.dst next k) : o.wp C.P a w next Q := by
  unfold wDo at hD
  split at hD
  case h_1 ho => exact s_move ho h hg hD hn
  case h_2 ho => exact s_assign ho h hg hD hn
  case h_3 ho => exact s_pick ho h hg hD hn
  case h_4 ho => exact s_alloc ho h hg hD hn
  case h_5 ho => exact s_box ho h hg hD hn
  case h_6 ho => exact s_build ho h hg hD hn
  case h_7 ho => exact s_buildSlice ho h hg hD hn
  case h_8 ho => exact s_load ho h hg hD hn
  case h_9 ho => exact s_store ho h hg hD hn
  case h_10 ho => exact s_nilCheck ho h hg hD hn
  case h_11 ho => exact s_binOp ho h hg hD hn
  case h_12 ho => exact s_unOp ho h hg hD hn
  case h_13 ho => exact s_convert ho h hg hD hn
  case h_14 ho => exact s_makeFunc ho h hg hD hn
  case h_15 ho => exact s_makeSlice ho h hg hD hn
  case h_16 ho => exact s_slice ho h hg hD hn
  case h_17 ho => exact s_fieldAddr ho h hg hD hn
  case h_18 ho => exact s_field ho h hg hD hn
  case h_19 ho => exact s_indexAddr ho h hg hD hn
  case h_20 ho => exact s_index ho h hg hD hn
  case h_21 ho => exact s_extract ho h hg hD hn
  case h_22 ho => exact s_call ho h hg hD hn
  case h_23 => exact hD.elim
end
end Go.Proofs.YtkpdlbidadcdjaaDoor.Abs
