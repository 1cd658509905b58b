/- Fields, elements, parts, lengths, conversions, appending. No condition. -/
import Derived.Test.YtkpdlbidadcdjaaDoorAbsJ
set_option linter.unusedVariables false
set_option linter.unusedSimpArgs false
namespace Go.Proofs.YtkpdlbidadcdjaaDoor.Abs
open Go
section
variable {P : Program} {w : World} {Pr : Addr → Prop}
variable {C : Cx} {st : St} {a : Act} {w' : World} {Pr' : Addr → Prop} {b : List Nat} {xs : List AC} {vs : List Value} {m : Bool} {gd : Option Bool} {dst : Option Nat}
  {next : Act → World → Prop} {Q : Exit → Act → World → Prop} {k : AC → St → Prop} {o : Oper}

theorem nil_of_count {M : List Nat} (h : ∀ x, M.count x ≤ ([] : List Nat).count x) : M = [] := by
  cases M with
  | nil => rfl
  | cons y M => have := h y; simp only [List.count_cons_self, List.count_nil] at this; omega

theorem Addr.add_add (p : Addr) (i j : Nat) : (p.add i).add j = p.add (i + j) := by
  unfold Addr.add
  by_cases hi : i = 0
  · subst hi; simp
  · by_cases hj : j = 0
    · subst hj; simp [hi]
    · simp [hi, hj, show i + j ≠ 0 by omega]; omega

theorem s_fieldAddr {s : TypeId} {x : Operand} {f : Nat} (ho : o.op = .fieldAddr s x f) (h : SR C st a w Pr b xs vs) (hg : gOk gd) (hD : wD_fieldAddr C.P C.fi m gd dst s x f st k) (hn : Goes C m st b a xs vs o.dst next k) :
    o.wp C.P a w next Q := by
  unfold wD_fieldAddr at hD
  split at hD
  · rename_i fs htd
    split at hD
    · rename_i off sz ft hf
      obtain ⟨hpos, hD⟩ := hD
      obtain ⟨gs, hu, hfs⟩ := tdOf_struct htd
      obtain ⟨u, hk, hr⟩ := h.un hD hg
      have hgf : ∃ fl, gs[f]? = some fl ∧ fl.offset = off ∧ C.P.cellsOf fl.type = sz := by
        rw [hfs, List.getElem?_map, Option.map_eq_some_iff] at hf
        obtain ⟨fl, h1, h2⟩ := hf
        simp only [Prod.mk.injEq] at h2
        exact ⟨fl, by simpa using h1, h2.1, h2.2.1⟩
      obtain ⟨fl, hgf, rfl, hsz⟩ := hgf
      have hne : ¬ C.P.cellsOf fl.type = 0 := by omega
      split at hk
      · rename_i uu i off'
        simp only [share] at hr
        generalize hv : a.eval x = z at hr
        cases hr with
        | ptr hgb =>
          rename_i g
          refine wp_quiet h hn hk (.ptr hgb) ?_
          simp [execOp, ho, Instr.fieldAt, run_underlying hu, hgf, hv, Instr.sureAddr, fieldPlace, run_sizeOf_of (show 0 < C.P.cellsOf fl.type by omega), hne, Addr.add_lit]
      · rename_i cells
        obtain ⟨hfit, hk⟩ := hk
        have hfit := hfit hg
        simp only [share] at hr
        generalize hv : a.eval x = z at hr
        cases hr with
        | ref hcs h1 hcc =>
          rename_i vals ad
          obtain ⟨L, ht, hL⟩ := hcs.take_drop fl.offset sz
          obtain rfl := nil_of_count hL
          refine wp_quiet h hn hk (.ref (ad := ad.add fl.offset) ht (fun v hv => h1 v (List.mem_of_mem_drop (List.mem_of_mem_take hv))) (fun j u hu => ?_)) ?_
          · rw [Addr.add_add]
            rw [List.getElem?_take] at hu
            split at hu
            · rw [List.getElem?_drop] at hu; exact hcc _ u hu
            · cases hu
          · simp [execOp, ho, Instr.fieldAt, run_underlying hu, hgf, hv, Instr.sureAddr, fieldPlace, run_sizeOf_of (show 0 < C.P.cellsOf fl.type by omega), hne]
      · simp only [share] at hr
        generalize hv : a.eval x = z at hr
        cases hr with
        | ept =>
          refine wp_quiet h hn hk .ept ?_
          simp [execOp, ho, Instr.fieldAt, run_underlying hu, hgf, hv, Instr.sureAddr, fieldPlace, run_sizeOf_of (show 0 < C.P.cellsOf fl.type by omega), hne, Addr.add_lit]
      · exact hk.elim
    · exact hD.elim
  · exact hD.elim

theorem s_index {t : TypeId} {x ix : Operand} (ho : o.op = .index t x ix) (h : SR C st a w Pr b xs vs) (hg : gOk gd) (hD : wD_index C.P C.fi m gd dst t x ix st k) (hn : Goes C m st b a xs vs o.dst next k) :
    o.wp C.P a w next Q := by
  unfold wD_index at hD
  obtain ⟨u1, hk, r1⟩ := h.un hD hg
  obtain ⟨u2, hk, r2⟩ := h.un hk hg
  split at hk
  · rename_i td s kk i htd _
    obtain ⟨hb, hk⟩ := hk
    have hb := hb hg
    have hu := tdOf_str htd
    simp only [share] at r1 r2
    generalize hv1 : a.eval x = z1 at r1
    generalize hv2 : a.eval ix = z2 at r2
    cases r2
    cases r1 with
    | str e l =>
      rename_i bs
      subst e
      refine wp_quiet h hn hk .int ?_
      have hi : i.toNat < bs.size := by
        have : bs.size = bs.data.toList.length := by rw [Array.length_toList]; rfl
        omega
      have e1 : bs[i.toNat]? = some (bs.data.toList.getD i.toNat 0) := by
        rw [getElem?_pos bs i.toNat hi]
        have hd : i.toNat < bs.data.size := hi
        have : bs.data.toList.getD i.toNat 0 = bs.data[i.toNat] := by
          rw [List.getD_eq_getElem?_getD, Array.getElem?_toList, Array.getElem?_eq_getElem hd]; rfl
        rw [this]; rfl
      simp only [execOp, ho, Instr.index, hv1, hv2, asIntOf, Sem.run_bind, Sem.run_pure, Result.andThen_ok, run_underlying hu, if_pos hb.1, e1]
  · exact hk.elim

/-- What may be read of a slice that others may look at, too. -/
theorem rep_sl {bl : List (List Nat)} {ow : Ow} {n : Nat} {cells : List AC} {z : Value} (hx : ow.isEx = false) (hr : Rep P w Pr bl (share (.sl ow n cells)) z []) :
    ∃ ad cap, z = .slice ad n cap ∧ n ≤ cap ∧ cap ≤ maxLen ∧ ((ad = none ∧ n = 0 ∧ cells = [] ∧ cap = 0) ∨ ∃ p vals, ad = some p ∧ Reps P w Pr [] (shareO ow cells) vals [] ∧ (∀ v ∈ vals, v.oneCell' = true) ∧
      (∀ j u, vals[j]? = some u → Pr (p.add j) ∧ w.cell? (p.add j) = some u)) := by
  cases ow with
  | no =>
    simp only [share] at hr
    cases hr with
    | slNo h1 h2 h3 h4 h5 => exact ⟨_, _, rfl, h4, h5, .inr ⟨_, _, rfl, h1, h2, h3⟩⟩
    | slNil => exact ⟨_, _, rfl, Nat.le_refl _, Nat.zero_le _, .inl ⟨rfl, rfl, rfl, rfl⟩⟩
  | nil =>
    simp only [share] at hr
    cases hr with
    | slNil => exact ⟨_, _, rfl, Nat.le_refl _, Nat.zero_le _, .inl ⟨rfl, rfl, rfl, rfl⟩⟩
  | of e =>
    simp only [share] at hr
    have hnil : shareL cells = [] → cells = [] := by cases cells <;> simp [shareL]
    simp only [shareO]
    generalize shareL cells = cs at hr hnil ⊢
    cases hr with
    | slNo h1 h2 h3 h4 h5 => exact ⟨_, _, rfl, h4, h5, .inr ⟨_, _, rfl, h1, h2, h3⟩⟩
    | slNil => exact ⟨_, _, rfl, Nat.le_refl _, Nat.zero_le _, .inl ⟨rfl, rfl, hnil rfl, rfl⟩⟩
  | ex e => simp [Ow.isEx] at hx

theorem shareO_take {ow : Ow} {cells : List AC} (i j : Nat) : shareO ow ((cells.drop i).take j) = ((shareO ow cells).drop i).take j := by
  cases ow <;> simp only [shareO] <;> first | rfl | rw [shareL_eq, shareL_eq, List.map_take, List.map_drop]
theorem shareO_length {ow : Ow} {cells : List AC} : (shareO ow cells).length = cells.length := by
  cases ow <;> simp only [shareO, shareL_length]

theorem s_indexAddr {t : TypeId} {x ix : Operand} (ho : o.op = .indexAddr t x ix) (h : SR C st a w Pr b xs vs) (hg : gOk gd) (hD : wD_indexAddr C.P C.fi m gd dst t x ix st k) (hn : Goes C m st b a xs vs o.dst next k) :
    o.wp C.P a w next Q := by
  unfold wD_indexAddr at hD
  obtain ⟨u1, hk, r1⟩ := h.un hD hg
  obtain ⟨u2, hk, r2⟩ := h.un hk hg
  split at hk
  · rename_i td e ow n cells kk i htd _
    obtain ⟨hex, hb, hpos, hcl, hk⟩ := hk
    have hb := hb hg
    have hu := tdOf_slice htd
    simp only [share] at r2
    generalize hv1 : a.eval x = z1 at r1
    generalize hv2 : a.eval ix = z2 at r2
    cases r2
    obtain ⟨ad0, cap, rfl, _, _, key⟩ := rep_sl hex r1
    rcases key with ⟨_, rfl, _⟩ | ⟨ad, vals, rfl, hcs, h1, hcc⟩
    · omega
    obtain ⟨L, ht, hL⟩ := hcs.take_drop (i.toNat * C.P.cellsOf e) (C.P.cellsOf e)
    obtain rfl := nil_of_count hL
    refine wp_quiet h hn hk (.ref (ad := ad.add (i.toNat * C.P.cellsOf e)) (by rw [shareO_take]; exact ht) (fun v hv => h1 v (List.mem_of_mem_drop (List.mem_of_mem_take hv))) (fun j u hu => ?_)) ?_
    · rw [Addr.add_add]
      rw [List.getElem?_take] at hu
      split at hu
      · rw [List.getElem?_drop] at hu; exact hcc _ u hu
      · cases hu
    · have hb' : 0 ≤ i ∧ i < (n : Int) := hb
      simp [execOp, ho, Instr.indexAt, hv1, hv2, asIntOf, run_underlying hu, hb'.1, hb'.2, run_sizeOf_of hpos]
  · rename_i td s y n kk i e htd _
    obtain ⟨hb, hpos, hk⟩ := hk
    have hb := hb hg
    have hu := tdOf_slice htd
    simp only [share] at r1 r2
    generalize hv1 : a.eval x = z1 at r1
    generalize hv2 : a.eval ix = z2 at r2
    cases r2
    cases r1 with
    | als hn0 hb0 =>
      obtain ⟨hb1, hb2⟩ := hb
      rcases hb0 with ⟨_, e⟩ | ⟨g, rfl⟩
      · omega
      · refine wp_quiet h hn hk .ept ?_
        simp [execOp, ho, Instr.indexAt, hv1, hv2, asIntOf, run_underlying hu, hb1, hb2, run_sizeOf_of hpos, Addr.add_lit]
  · exact hk.elim

theorem s_len {t : TypeId} {ts : Array TypeId} {x : Operand} (ho : o.op = .call { callee := .builtin .len, args := #[x], argTypes := ts }) (ht : ts[0]? = some t) (h : SR C st a w Pr b xs vs) (hg : gOk gd)
    (hD : un gd (st.ev x) fun v => wLen gd (tdOf C.P t) v fun v => k v st) (hn : Goes C m st b a xs vs o.dst next k) : o.wp C.P a w next Q := by
  obtain ⟨u, hk, hrep, hr1⟩ := un_share hD hg
  have hr := hr1 (h.ev x)
  clear hr1
  unfold wLen at hk
  split at hk
  · rename_i htd
    have hu := tdOf_str htd
    simp only [share] at hr
    generalize hv : a.eval x = z at hr
    cases hr with
    | str e l =>
      rename_i bs
      subst e
      have e2 : (bs.size : Int) = (bs.data.toList.length : Int) := by rw [Array.length_toList]; rfl
      refine wp_quiet h hn (hk fun _ => l) .int ?_
      simp [execOp, ho, resolve, invoke, builtin, Builtin.len_, ht, hv, run_underlying hu, goInt]
  · rename_i o' n cells htd
    have hu := tdOf_slice htd
    obtain ⟨Le, Ll, Lx, Lk, h0⟩ := h
    have full : ∃ L, Rep C.P w Pr (b :: C.bl0) (st.ev x) (a.eval x) L := by
      cases x with
      | tmp t => obtain ⟨L, hl, _⟩ := h0.get t; exact ⟨L, hl⟩
      | const v => exact ⟨[], rep_ofV v⟩
      | func f => exact ⟨[], .fn (by simp) .nil⟩
      | global g => exact ⟨[], .undef⟩
    obtain ⟨L, hf⟩ := full
    have hr := hrep hf
    generalize hv : a.eval x = z at hr
    have key : ∃ ad cap, z = .slice ad n cap ∧ n ≤ maxLen := by
      cases hr with
      | slNo _ _ _ h4 h5 => exact ⟨_, _, rfl, Nat.le_trans h4 h5⟩
      | slNil => exact ⟨_, _, rfl, Nat.zero_le _⟩
      | slOf _ _ _ h4 h5 => exact ⟨_, _, rfl, Nat.le_trans h4 h5⟩
      | slEx _ _ _ h4 h5 => exact ⟨_, _, rfl, Nat.le_trans h4 h5⟩
    obtain ⟨ad, cap, rfl, hle⟩ := key
    refine wp_quiet ⟨Le, Ll, Lx, Lk, h0⟩ hn (hk fun _ => hle) .int ?_
    simp [execOp, ho, resolve, invoke, builtin, Builtin.len_, ht, hv, run_underlying hu, goInt]
  · rename_i s o' y n htd
    have hu := tdOf_slice htd
    simp only [share] at hr
    generalize hv : a.eval x = z at hr
    cases hr with
    | als hle _ =>
      refine wp_quiet h hn (hk fun _ => hle) .int ?_
      simp [execOp, ho, resolve, invoke, builtin, Builtin.len_, ht, hv, run_underlying hu, goInt]
  · exact hk.elim
end
end Go.Proofs.YtkpdlbidadcdjaaDoor.Abs
