/- Fields by value, parts of strings and slices, made slices, conversions, appending. No condition. -/
import Derived.Test.YtkpdlbidadcdjaaDoorAbsK
import Derived.Laws.Strings2
set_option linter.unusedVariables false
set_option linter.unusedSimpArgs false
namespace Go.Proofs.YtkpdlbidadcdjaaDoor.Abs
open Go
section
variable {P : Program} {w : World} {Pr : Addr → Prop}
variable {C : Cx} {st : St} {a : Act} {w' : World} {Pr' : Addr → Prop} {b : List Nat} {xs : List AC} {vs : List Value} {m : Bool} {gd : Option Bool} {dst : Option Nat}
  {next : Act → World → Prop} {Q : Exit → Act → World → Prop} {k : AC → St → Prop} {o : Oper}

theorem s_field {s : TypeId} {x : Operand} {f : Nat} (ho : o.op = .field s x f) (h : SR C st a w Pr b xs vs) (hg : gOk gd) (hD : wD_field C.P C.fi m gd dst s x f st k) (hn : Goes C m st b a xs vs o.dst next k) :
    o.wp C.P a w next Q := by
  unfold wD_field at hD
  split at hD
  · rename_i fs htd
    split at hD
    · rename_i off sz ft hf
      obtain ⟨hpos, rfl, hgood, hD⟩ := hD
      obtain ⟨gs, hu, hfs⟩ := tdOf_struct htd
      obtain ⟨u, hk, hr⟩ := h.un hD hg
      have hgf : ∃ fl, gs[f]? = some fl ∧ fl.offset = off ∧ fl.type = ft := by
        rw [hfs, List.getElem?_map, Option.map_eq_some_iff] at hf
        obtain ⟨fl, h1, h2⟩ := hf
        simp only [Prod.mk.injEq] at h2
        exact ⟨fl, by simpa using h1, h2.1, h2.2.2⟩
      obtain ⟨fl, hgf, rfl, rfl⟩ := hgf
      split at hk
      · rename_i cells
        obtain ⟨hfit, hk⟩ := hk
        simp only [share] at hr
        generalize hv : a.eval x = z at hr
        have key : ∃ vals, z = .agg vals.toArray ∧ Reps C.P w Pr (b :: C.bl0) (shareL cells) vals [] ∧ ∀ v ∈ vals, v.oneCell' = true := by
          generalize shareL cells = cs at hr ⊢
          cases hr with
          | agg h1 h2 => exact ⟨_, rfl, h1, h2⟩
        obtain ⟨vals, rfl, hcs, h1⟩ := key
        have hlen := hcs.length
        rw [shareL_length] at hlen
        obtain ⟨L, ht, hL⟩ := hcs.take_drop fl.offset (C.P.cellsOf fl.type)
        obtain rfl := nil_of_count hL
        obtain ⟨d, hu', hna, hst⟩ := goodTy_und hgood
        have h1' : ∀ v ∈ (vals.drop fl.offset).take (C.P.cellsOf fl.type), v.oneCell' = true := fun v hv => h1 v (List.mem_of_mem_drop (List.mem_of_mem_take hv))
        have esh : share (mkVal C.P fl.type ((cells.drop fl.offset).take (C.P.cellsOf fl.type))) = mkVal C.P fl.type (((shareL cells).drop fl.offset).take (C.P.cellsOf fl.type)) := by
          rw [shareL_eq, ← List.map_drop, ← List.map_take]
          unfold mkVal
          split
          · simp only [share, shareL_eq]
          · cases (cells.drop fl.offset).take (C.P.cellsOf fl.type) <;> simp [share]
        by_cases hs : ∃ fs, tdOf C.P fl.type = .struct fs
        · obtain ⟨fs', hfs'⟩ := hs
          obtain ⟨gs', rfl⟩ := hst.2 ⟨fs', hfs'⟩
          refine wp_quiet (v := .agg ((vals.drop fl.offset).take (C.P.cellsOf fl.type)).toArray) h hn hk (by rw [esh]; simp only [mkVal, hfs']; exact .agg ht h1') ?_
          simp only [execOp, ho, Instr.field, hv, Sem.run_bind, run_underlying hu, Result.andThen_ok, hgf, asAgg, Sem.run_pure, part, run_isAgg_of hu', isAggD, if_true, run_sizeOf_of hpos]
          congr 3
          apply Array.ext'
          simp [List.drop_take, Nat.add_sub_cancel_left]
        · have hd : isAggD d = false := by
            cases d <;> first | rfl | exact absurd (hst.1 ⟨_, rfl⟩) hs | exact absurd rfl (hna _ _)
          have hv0 : ∃ v, vals[fl.offset]? = some v := ⟨_, List.getElem?_eq_getElem (by omega)⟩
          obtain ⟨v, hv0⟩ := hv0
          refine wp_quiet (v := v) h hn hk ?_ ?_
          · rw [esh]
            have e : ∀ cs, mkVal C.P fl.type cs = cs.headD .undef := by
              intro cs; unfold mkVal; split
              · rename_i fs h; exact absurd ⟨fs, h⟩ hs
              · rfl
            rw [e]
            have hh : ((vals.drop fl.offset).take (C.P.cellsOf fl.type))[0]? = some v := by
              rw [List.getElem?_take, if_pos hpos, List.getElem?_drop]; simpa using hv0
            cases hcs' : ((shareL cells).drop fl.offset).take (C.P.cellsOf fl.type) with
            | nil => simp; exact .undef
            | cons c cs =>
              rw [hcs'] at ht
              cases hvs : (vals.drop fl.offset).take (C.P.cellsOf fl.type) with
              | nil => rw [hvs] at hh; simp at hh
              | cons v' vs' =>
                rw [hvs] at ht hh
                simp at hh; subst hh
                simpa using (Reps.nil_split ht).1
          · simp [execOp, ho, Instr.field, hv, run_underlying hu, hgf, asAgg, part, run_isAgg_of hu', hd, hv0]
      · rename_i sl yv nn
        obtain ⟨hes, hm, hk⟩ := hk
        split at hk
        · rename_i y' cells hs
          obtain ⟨hyy, hk⟩ := hk
          subst hyy
          split at hk
          · rename_i te e2 n2 cs2 htd2 hoff
            obtain ⟨hone, hk⟩ := hk
            simp only [share] at hr
            generalize hv : a.eval x = z at hr
            have hzy : z = y' := by cases hr <;> rfl
            subst hzy
            obtain ⟨Le, Ll, Lx, Lk, h0⟩ := h
            obtain ⟨xv, Lv, Lr, hxv, hrs, hLc, hset⟩ := h0.slot hs (by simp)
            have hval := hrs.nam_val
            have hrs := hrs.nam_inv
            subst hval
            cases hrs with
            | agg hcs h1 =>
              rename_i vals
              obtain ⟨v0, Li, L', hv0, hr0, hc0, hput⟩ := hcs.takeAt hoff
              have hrun : (execOp a.eval o).run C.P w = .ok (.value v0) w := by
                have hne : ¬ ∃ fs, tdOf C.P fl.type = .struct fs := by rintro ⟨fs', h'⟩; rw [htd2] at h'; cases h'
                obtain ⟨d, hu', hna, hst⟩ := goodTy_und hgood
                have hd : isAggD d = false := by
                  cases d <;> first | rfl | exact absurd (hst.1 ⟨_, rfl⟩) hne | exact absurd rfl (hna _ _)
                simp [execOp, ho, Instr.field, hv, run_underlying hu, hgf, asAgg, part, run_isAgg_of hu', hd, hv0]
              obtain ⟨L2, k10, k11⟩ := hput _ _ (Rep.nam hr0)
              obtain ⟨eK, kE, kL, hset⟩ := hset (.nam (.agg vals.toArray) (.agg (cells.set fl.offset (.nam v0 (.sl (.ex e2) n2 cs2)))))
              obtain ⟨Le', Ll', g1, g2, g3⟩ := hset w Pr _ _ (fun c z M hM _ => hM) (.nam (.agg k10 h1))
              have hS : SR C (st.setAt sl (.nam (.agg vals.toArray) (.agg (cells.set fl.offset (.nam v0 (.sl (.ex e2) n2 cs2)))))) a w Pr b xs vs := by
                refine ⟨Le', Ll', Lx, Lk, { h0 with env := g1, loc := g2, K := by rw [eK]; exact h0.K, cnt := fun z => ?_, new := fun z hz => h0.new z ?_, kE := kE, kL := kL }⟩
                · have := h0.cnt z; have := g3 z; have := hLc z; have := k11 z; have := hc0 z
                  omega
                · have := g3 z; have := hLc z; have := k11 z; have := hc0 z
                  omega
              refine wp_val hrun (hn _ _ _ _ _ b (hk v0) (hS.push ?_) fun e => by rw [hm] at e; cases e)
              cases hr0 with
              | slEx _ _ _ h4 h5 => exact .als (Nat.le_trans h4 h5) (.inr ⟨_, rfl⟩)
              | slNil => exact .als (Nat.zero_le _) (.inl ⟨rfl, rfl⟩)
          · exact hk.elim
        · exact hk.elim
      · exact hk.elim
    · exact hD.elim
  · exact hD.elim

theorem optInt_sound {x : Option Operand} {d : Int} {kk : Int → Prop} (h : SR C st a w Pr b xs vs) (hD : optInt gd st d x kk) (hg : gOk gd) :
    ∃ n, kk n ∧ ((x = none ∧ n = d) ∨ ∃ y j, x = some y ∧ a.eval y = .int j n) := by
  cases x with
  | none => exact ⟨d, hD, .inl ⟨rfl, rfl⟩⟩
  | some y =>
    obtain ⟨u, hk, hr⟩ := h.un hD hg
    split at hk
    · simp only [share] at hr
      generalize hv : a.eval y = z at hr
      cases hr
      exact ⟨_, hk, .inr ⟨y, _, rfl, hv⟩⟩
    · exact hk.elim

theorem run_bounds {isS : Bool} {lo hi : Option Operand} {l h : Int} {len cap : Nat} (hl : (lo = none ∧ l = 0) ∨ ∃ z j, lo = some z ∧ a.eval z = .int j l) (hh : (hi = none ∧ h = (len : Int)) ∨ ∃ z j, hi = some z ∧ a.eval z = .int j h)
    (h0 : 0 ≤ l) (h1 : l ≤ h) (h2 : h ≤ len) (h3 : len ≤ cap) : (Instr.sliceBounds isS len cap (lo.map a.eval) (hi.map a.eval) none).run P w = .ok (l.toNat, h.toNat, cap) w := by
  have h4 : 0 ≤ h := by omega
  have h5 : h ≤ (cap : Int) := by omega
  have h6 : l ≤ (h.toNat : Int) := by omega
  rcases hl with ⟨rfl, rfl⟩ | ⟨z, j, rfl, e⟩
  · rcases hh with ⟨rfl, rfl⟩ | ⟨z', j', rfl, e'⟩
    · simp [Instr.sliceBounds]
    · simp [Instr.sliceBounds, Instr.sliceBound, e', asIntOf, h4, h5]
  · rcases hh with ⟨rfl, rfl⟩ | ⟨z', j', rfl, e'⟩
    · simp [Instr.sliceBounds, Instr.sliceBound, e, asIntOf, h0, h1]
    · simp [Instr.sliceBounds, Instr.sliceBound, e, e', asIntOf, h0, h4, h5, h6]; intro hx; omega

theorem s_slice {t : TypeId} {x : Operand} {lo hi mx : Option Operand} (ho : o.op = .slice t x lo hi mx) (h : SR C st a w Pr b xs vs) (hg : gOk gd) (hD : wD_slice C.P C.fi m gd dst t x lo hi mx st k) (hn : Goes C m st b a xs vs o.dst next k) :
    o.wp C.P a w next Q := by
  obtain ⟨rfl, hD⟩ := hD
  obtain ⟨u, hk, hr⟩ := h.un hD hg
  split at hk
  · rename_i s htd
    have hu := tdOf_str htd
    simp only [share] at hr
    generalize hv : a.eval x = z at hr
    cases hr with
    | str e l =>
      rename_i bs
      subst e
      obtain ⟨lv, hk, hl⟩ := optInt_sound h hk hg
      obtain ⟨hv', hk, hh⟩ := optInt_sound h hk hg
      obtain ⟨hb, hk⟩ := hk
      obtain ⟨b0, b1, b2⟩ := hb hg
      have esz : bs.data.toList.length = bs.size := by rw [Array.length_toList]; rfl
      have r1 := run_bounds (P := C.P) (w := w) (a := a) (isS := false) (len := bs.size) (cap := bs.size) hl (by rw [← esz]; exact hh) b0 b1 (by omega) (Nat.le_refl _)
      refine wp_quiet (v := .string (bs.extract lv.toNat hv'.toNat)) h hn hk (.str ?_ (by simp; omega)) ?_
      · obtain ⟨⟨l⟩⟩ := bs
        rw [ByteArray.extract_mk, List.drop_take]
      · simp only [execOp, ho, Instr.sliceAt, Instr.slice, Sem.run_bind, run_underlying hu, Result.andThen_ok, hv, Option.map_none, Option.isSome_none, Bool.false_eq_true, if_false, Sem.run_pure, r1]
  · rename_i e ow n cells htd
    have hu := tdOf_slice htd
    generalize hv : a.eval x = z at hr
    obtain ⟨lv, hk, hl⟩ := optInt_sound h hk hg
    obtain ⟨hv', hk, hh⟩ := optInt_sound h hk hg
    obtain ⟨hex, hb, hk⟩ := hk
    obtain ⟨ad, cap, rfl, hle, hcm, hcs⟩ := rep_sl hex hr
    obtain ⟨hpos, b0, b1, b2⟩ := hb hg
    have r1 := run_bounds (P := C.P) (w := w) (a := a) (isS := true) (len := n) (cap := cap) hl hh b0 b1 b2 hle
    have hrun : (execOp a.eval o).run C.P w = .ok (.value (.slice (if cap = lv.toNat then ad else ad.map (·.add (lv.toNat * C.P.cellsOf e))) (hv'.toNat - lv.toNat) (cap - lv.toNat))) w := by
      simp only [execOp, ho, Instr.sliceAt, Instr.slice, Sem.run_bind, run_underlying hu, Result.andThen_ok, hv, Option.map_none, Option.isSome_none, Bool.false_eq_true, if_false, Sem.run_pure, r1, run_sizeOf_of hpos]
    refine wp_quiet h hn hk ?_ hrun
    have esh : shareO ow ((cells.take (hv'.toNat * C.P.cellsOf e)).drop (lv.toNat * C.P.cellsOf e)) = ((shareO ow cells).take (hv'.toNat * C.P.cellsOf e)).drop (lv.toNat * C.P.cellsOf e) := by
      cases ow <;> simp only [shareO] <;> first | rfl | rw [shareL_eq, shareL_eq, List.map_drop, List.map_take]
    rcases hcs with ⟨rfl, rfl, rfl, rfl⟩ | ⟨p, vals, rfl, h1, h2, h3⟩
    · have e1 : lv.toNat = 0 := by omega
      have e2 : hv'.toNat = 0 := by omega
      have e3 : shareO ow ([] : List AC) = [] := by cases ow <;> rfl
      simp only [e1, e2, List.take_nil, List.drop_nil, e3, if_true, Nat.sub_self]
      exact .slNil
    · rw [esh]
      have h1' := h1
      rw [← List.take_append_drop (hv'.toNat * C.P.cellsOf e) (shareO ow cells)] at h1'
      obtain ⟨v1, v2, L1, L2, rfl, hL, hl1, g1, _⟩ := h1'.split
      obtain ⟨rfl, rfl⟩ := List.append_eq_nil_iff.1 hL.symm
      rw [← List.take_append_drop (lv.toNat * C.P.cellsOf e) ((shareO ow cells).take (hv'.toNat * C.P.cellsOf e))] at g1
      obtain ⟨u1, u2, M1, M2, rfl, hM, hl2, _, g2⟩ := g1.split
      obtain ⟨rfl, rfl⟩ := List.append_eq_nil_iff.1 hM.symm
      have hone : ∀ v ∈ u2, v.oneCell' = true := fun v hv => h2 v (by simp [hv])
      by_cases hc : cap = lv.toNat
      · have hz : hv'.toNat - lv.toNat = 0 := by omega
        have hu2 : u2 = [] := by
          have := g2.length
          have e3 : hv'.toNat = lv.toNat := by omega
          rw [e3, List.drop_take_self] at this
          exact List.eq_nil_of_length_eq_zero (by simpa using this.symm)
        subst hu2
        simp only [hc, if_true]
        exact .slNo g2 hone (fun j u hu => by simp at hu) (by omega) (by omega)
      · simp only [if_neg hc, Option.map_some]
        refine .slNo g2 hone (fun j u hu => ?_) (by omega) (by omega)
        rw [Addr.add_add]
        by_cases hsh : lv.toNat * C.P.cellsOf e ≤ ((shareO ow cells).take (hv'.toNat * C.P.cellsOf e)).length
        · have hlu : u1.length = lv.toNat * C.P.cellsOf e := by rw [hl2, List.length_take]; omega
          refine h3 _ u ?_
          rw [List.getElem?_append_left (by simp; have := (List.getElem?_eq_some_iff.1 hu).1; omega), List.getElem?_append_right (by omega)]
          rw [hlu, Nat.add_sub_cancel_left]; exact hu
        · have := g2.length
          rw [List.drop_eq_nil_of_le (by omega)] at this
          have : u2 = [] := List.eq_nil_of_length_eq_zero this.symm
          subst this; simp at hu
  · exact hk.elim
end
end Go.Proofs.YtkpdlbidadcdjaaDoor.Abs
