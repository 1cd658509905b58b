/- The operations that leave the world alone do what the weakest precondition says. No condition. -/
import Derived.Test.YtkpdlbidadcdjaaDoorAbsD
import Derived.Laws.Cover3
import Derived.Laws.StructEq
set_option linter.unusedVariables false
set_option linter.unusedSimpArgs false
namespace Go.Proofs.YtkpdlbidadcdjaaDoor.Abs
open Go
/-- Where an operation's walk goes on. -/
def Goes (C : Cx) (m : Bool) (st : St) (b : List Nat) (a : Act) (xs : List AC) (vs : List Value) (dst : Option Nat) (next : Act → World → Prop) (k : AC → St → Prop) : Prop :=
  ∀ av st' v w' Pr' b', k av st' → SR C st' a w' Pr' b' (av :: xs) (v :: vs) → (m = false → st' = st ∧ b' = b) → next (a.put dst v) w'

/-! What 'tdOf' says of a type. -/
theorem tdOf_bool {P : Program} {t : TypeId} (h : tdOf P t = .bool) : P.underlying t = some .bool := by
  unfold tdOf at h; split at h <;> first | assumption | (simp at h; done)
theorem tdOf_int {P : Program} {t : TypeId} {j : IntKind} (h : tdOf P t = .int j) : P.underlying t = some (.int j) := by
  unfold tdOf at h; split at h <;> first | (simp at h; done) | (simp at h; subst h; assumption)
theorem tdOf_str {P : Program} {t : TypeId} (h : tdOf P t = .str) : P.underlying t = some .string := by
  unfold tdOf at h; split at h <;> first | assumption | (simp at h; done)
theorem tdOf_slice {P : Program} {t e : TypeId} (h : tdOf P t = .slice e) : P.underlying t = some (.slice e) := by
  unfold tdOf at h; split at h <;> first | (simp at h; done) | (simp at h; subst h; assumption)
theorem tdOf_struct {P : Program} {t : TypeId} {fs : List (Nat × Nat × TypeId)} (h : tdOf P t = .struct fs) :
    ∃ gs, P.underlying t = some (.struct gs) ∧ fs = gs.toList.map fun f => (f.offset, P.cellsOf f.type, f.type) := by
  unfold tdOf at h; split at h <;> first | (simp at h; done) | (rename_i gs hu; simp at h; exact ⟨gs, hu, h.symm⟩)
theorem goodTy_und {P : Program} {t : TypeId} (h : goodTy P t) : ∃ d, P.underlying t = some d ∧ (∀ n e, d ≠ .array n e) ∧ ((∃ fs, d = .struct fs) ↔ ∃ fs, tdOf P t = .struct fs) := by
  unfold goodTy tdOf at h
  unfold tdOf
  cases hu : P.underlying t with
  | none => simp [hu] at h
  | some d => cases d <;> simp [hu] at h ⊢

section
variable {C : Cx} {st : St} {a : Act} {w w' : World} {Pr Pr' : Addr → Prop} {b : List Nat} {xs : List AC} {vs : List Value} {m : Bool} {gd : Option Bool} {dst : Option Nat}
  {next : Act → World → Prop} {Q : Exit → Act → World → Prop} {k : AC → St → Prop} {o : Oper}

theorem wp_val {v : Value} (hr : (execOp a.eval o).run C.P w = .ok (.value v) w') (hn : next (a.put o.dst v) w') : o.wp C.P a w next Q := by
  unfold Oper.wp; rw [hr]; exact hn

theorem wp_quiet {v : Value} {av : AC} (h : SR C st a w Pr b xs vs) (hn : Goes C m st b a xs vs o.dst next k) (hk : k av st) (hr : Rep C.P w Pr (b :: C.bl0) av v [])
    (hrun : (execOp a.eval o).run C.P w = .ok (.value v) w) : o.wp C.P a w next Q :=
  wp_val hrun (hn _ _ _ _ _ _ hk (h.push hr) fun _ => ⟨rfl, rfl⟩)

theorem s_move {x : Operand} (ho : o.op = .move x) (h : SR C st a w Pr b xs vs) (hg : gOk gd) (hD : wD_move C.P C.fi m gd o.dst x st k) (hn : Goes C m st b a xs vs o.dst next k) :
    o.wp C.P a w next Q := by
  have hrun : (execOp a.eval o).run C.P w = .ok (.value (a.eval x)) w := by simp [execOp, ho]
  unfold wD_move at hD
  split at hD
  · rename_i t
    split at hD
    · rename_i hm
      obtain ⟨u, hk, h1, h2⟩ := un_share hD hg
      refine wp_val hrun (hn _ _ _ _ _ _ hk ((h.take t).weaken fun L hr => ⟨L, h1 hr, fun x => Nat.le_refl _⟩) fun e => by simp [e] at hm)
    · split at hD
      · rename_i y v hv
        have hev := h.ev (.tmp t)
        simp only [St.ev, hv, share] at hev
        split at hD
        · rename_i hX
          refine wp_quiet h hn hD ?_ hrun
          obtain ⟨Le, Ll, Lx, Lk, h0⟩ := h
          obtain ⟨L, hr, _⟩ := h0.get t
          rw [hv] at hr
          have hy := hr.nam_val
          have hr := hr.nam_inv
          simp only [Act.eval]
          rw [← hy]
          rw [← hy] at hr
          cases v with
          | sl o n cs =>
            simp only [lenOf]
            cases hr with
            | slNo _ _ _ h4 h5 => simp [isX] at hX
            | slNil => exact .als (Nat.zero_le _) (.inl ⟨rfl, rfl⟩)
            | slOf _ _ _ h4 h5 => simp [isX] at hX
            | slEx _ _ _ h4 h5 => exact .als (Nat.le_trans h4 h5) (.inr ⟨_, rfl⟩)
          | agg cs => exact .alsA
          | _ => simp [isX] at hX
        · exact wp_quiet h hn hD hev hrun
      · obtain ⟨u, hk, h1, h2⟩ := un_share hD hg
        exact wp_quiet h hn hk (h2 (h.ev (.tmp t))) hrun
  · rename_i hx
    refine wp_quiet h hn hD ?_ hrun
    cases x with
    | tmp t => exact absurd rfl (hx t)
    | const v => exact rep_ofV v
    | func f => exact .fn (by simp) .nil
    | global g => exact .undef

theorem s_assign {x : Operand} (ho : o.op = .assign x) (h : SR C st a w Pr b xs vs) (hg : gOk gd) (hD : wD_assign C.P C.fi m gd dst x st k) (hn : Goes C m st b a xs vs o.dst next k) :
    o.wp C.P a w next Q := by
  obtain ⟨u, st', hk, hS, _, hm⟩ := h.wT hD hg
  exact wp_val (by simp [execOp, ho]) (hn _ _ _ _ _ _ hk hS fun e => ⟨hm e, rfl⟩)

theorem rep_pick {P : Program} {bl : List (List Nat)} {c : Bool} {x y : AC} {u v : Value} {L M : List Nat} (hx : c = true → Rep P w Pr bl x u L) (hy : c = false → Rep P w Pr bl y v M) :
    ∃ N, Rep P w Pr bl (pickV c x y) (if c then u else v) N := by
  cases c with
  | true =>
    have hx := hx rfl
    refine ⟨L, ?_⟩
    unfold pickV
    split
    · simpa using hx
    · split
      · simpa using hx
      · simpa using hx
    · simpa using hx
    · simpa using hx
  | false =>
    have hy := hy rfl
    refine ⟨M, ?_⟩
    unfold pickV
    split
    · simpa using hy
    · split
      · rename_i e; subst e; simpa using hy
      · simpa using hy
    · simpa using hy
    · simpa using hy

theorem un_rep {v : AC} {kk : AC → Prop} (hu : Abs.un gd v kk) : ∃ u, kk u ∧ (gOk gd → ∀ {P w Pr bl x L}, Rep P w Pr bl v x L → Rep P w Pr bl u x L) := by
  unfold Abs.un at hu
  split at hu
  · exact ⟨_, hu.2, fun hg {P w Pr bl x L} h => h.opt_inv (hu.1 hg)⟩
  · exact ⟨_, hu, fun hg {P w Pr bl x L} h => h.nam_inv⟩
  · exact ⟨_, hu, fun hg {P w Pr bl x L} h => h⟩

theorem s_pick {c x y : Operand} (ho : o.op = .pick c x y) (h : SR C st a w Pr b xs vs) (hg : gOk gd) (hD : wD_pick C.P C.fi m gd dst c x y st k) (hn : Goes C m st b a xs vs o.dst next k) :
    o.wp C.P a w next Q := by
  unfold wD_pick at hD
  obtain ⟨u, hk, hr⟩ := h.un hD hg
  split at hk
  · rename_i cb
    simp only [share] at hr
    obtain ⟨u1, hk, r1⟩ := un_rep hk
    obtain ⟨u2, hk, r2⟩ := un_rep hk
    have hgt : gd.getD true = true := by cases gd with | none => rfl | some g => exact hg
    obtain ⟨Le, Ll, Lx, Lk, h0⟩ := h
    have full : ∀ z : Operand, ∃ L, Rep C.P w Pr (b :: C.bl0) (st.ev z) (a.eval z) L := fun z => by
      cases z with
      | tmp t => obtain ⟨L, hl, _⟩ := h0.get t; exact ⟨L, hl⟩
      | const v => exact ⟨[], rep_ofV v⟩
      | func f => exact ⟨[], .fn (by simp) .nil⟩
      | global g => exact ⟨[], .undef⟩
    obtain ⟨L1, f1⟩ := full x
    obtain ⟨L2, f2⟩ := full y
    obtain ⟨N, hp⟩ := rep_pick (c := cb) (x := u1) (y := u2) (u := a.eval x) (v := a.eval y) (fun e => r1 (by simp [gOk, hgt, e]) f1) (fun e => r2 (by simp [gOk, hgt, e]) f2)
    have hcv : a.eval c = .bool cb := by generalize a.eval c = z at hr; cases hr; rfl
    refine wp_quiet ⟨Le, Ll, Lx, Lk, h0⟩ hn hk hp.share ?_
    simp only [execOp, ho, hcv, asBool]
    cases cb <;> simp
  · exact absurd hg hk.1
  · exact hk.elim

theorem s_nilCheck {x : Operand} (ho : o.op = .nilCheck x) (h : SR C st a w Pr b xs vs) (hg : gOk gd) (hD : wD_nilCheck C.P C.fi m gd dst x st k) (hn : Goes C m st b a xs vs o.dst next k) :
    o.wp C.P a w next Q := by
  unfold wD_nilCheck at hD
  obtain ⟨u, hk, hr⟩ := h.un hD hg
  split at hk
  · simp only [share] at hr
    refine wp_quiet h hn hk hr ?_
    generalize hv : a.eval x = v at hr
    cases hr
    simp [execOp, ho, hv]
  · simp only [share] at hr
    refine wp_quiet h hn hk hr ?_
    generalize hv : a.eval x = v at hr
    cases hr
    simp [execOp, ho, hv]
  · simp only [share] at hr
    refine wp_quiet h hn hk hr ?_
    generalize hv : a.eval x = v at hr
    cases hr
    simp [execOp, ho, hv]
  · exact hk.elim

theorem s_unOp {op : UnOp} {t : TypeId} {x : Operand} (ho : o.op = .unOp op t x) (h : SR C st a w Pr b xs vs) (hg : gOk gd) (hD : wD_unOp C.P C.fi m gd dst op t x st k) (hn : Goes C m st b a xs vs o.dst next k) :
    o.wp C.P a w next Q := by
  unfold wD_unOp at hD
  obtain ⟨u, hk, hr⟩ := h.un hD hg
  split at hk
  · simp only [share] at hr
    generalize hv : a.eval x = v at hr
    cases hr
    exact wp_quiet h hn hk .bool (by simp [execOp, ho, hv, Op.unary])
  · simp only [share] at hr
    generalize hv : a.eval x = v at hr
    cases hr
    exact wp_quiet h hn hk .int (by simp [execOp, ho, hv, Op.unary, Op.intArith])
  · exact hk.elim

theorem s_makeFunc {f : FuncId} {first captured : Array Operand} (ho : o.op = .makeFunc (.func f) first captured) (h : SR C st a w Pr b xs vs) (hg : gOk gd)
    (hD : wD_makeFunc C.P C.fi m gd dst f first captured st k) (hn : Goes C m st b a xs vs o.dst next k) : o.wp C.P a w next Q := by
  obtain ⟨rfl, hp, hk⟩ := hD
  have key : ∀ l : List Operand, (l.map st.ev).all isPtr = true → Reps C.P w Pr (b :: C.bl0) (l.map st.ev) (l.map a.eval) [] := by
    intro l
    induction l with
    | nil => intro _; exact .nil
    | cons x l ih =>
      intro hp
      simp only [List.map_cons, List.all_cons, Bool.and_eq_true] at hp
      have hx := h.ev x
      have : share (st.ev x) = st.ev x := by
        have hp1 := hp.1
        generalize st.ev x = z at hp1
        cases z <;> first | (simp only [share]; done) | (simp [isPtr] at hp1; done)
      rw [this] at hx
      exact Reps.cons (L := []) (M := []) hx (ih hp.2)
  refine wp_quiet h hn hk (.fn (fun c hc => List.all_eq_true.1 hp c hc) (key _ hp)) ?_
  simp [execOp, ho, Instr.makeFunc, ← Array.toList_map]


theorem bytes_eq (x y : List UInt8) : (x == y) = decide (x = y) := by
  rw [Bool.eq_iff_iff, beq_iff_eq, decide_eq_true_iff]

theorem bool_beq (x y : Bool) : (x == y) = decide (x = y) := by cases x <;> cases y <;> rfl

theorem s_intBin {op : BinOp} {j j' : IntKind} {x y : Int} {kk : AC → Prop} {t : TypeId} (hg : gOk gd) (hD : intBin gd op j j' x y kk) :
    ∃ av v, kk av ∧ (∀ {P w Pr bl}, Rep P w Pr bl av v []) ∧ (binOp op t (.int j x) (.int j' y)).run C.P w = .ok v w := by
  unfold intBin at hD
  cases op <;> simp only at hD
  case shl =>
    refine ⟨_, _, hD.2, .int, ?_⟩
    have := hD.1 hg
    simp [binOp, Op.shift, Int.not_lt.2 this]
  case shr =>
    refine ⟨_, _, hD.2, .int, ?_⟩
    have := hD.1 hg
    simp [binOp, Op.shift, Int.not_lt.2 this]
  case quo => obtain ⟨rfl, h0, hk⟩ := hD; exact ⟨_, _, hk, .int, by simp [binOp, Op.intDiv, h0 hg]⟩
  case rem => obtain ⟨rfl, h0, hk⟩ := hD; exact ⟨_, _, hk, .int, by simp [binOp, Op.intDiv, h0 hg]⟩
  all_goals (obtain ⟨rfl, hk⟩ := hD)
  case and => exact ⟨_, _, hk, .int, by simp [binOp, Op.intBits, bitsOp]⟩
  case or => exact ⟨_, _, hk, .int, by simp [binOp, Op.intBits, bitsOp]⟩
  case xor => exact ⟨_, _, hk, .int, by simp [binOp, Op.intBits, bitsOp]⟩
  case andNot => exact ⟨_, _, hk, .int, by simp [binOp, Op.intBits, bitsOp]⟩
  case add => exact ⟨_, _, hk, .int, by simp [binOp, Op.intArith]⟩
  case sub => exact ⟨_, _, hk, .int, by simp [binOp, Op.intArith]⟩
  case mul => exact ⟨_, _, hk, .int, by simp [binOp, Op.intArith]⟩
  case neq => exact ⟨_, _, hk, .bool, by simp [binOp, Op.intCmp]; rfl⟩
  case eql => exact ⟨_, _, hk, .bool, by simp [binOp, Op.intCmp]; rfl⟩
  all_goals exact ⟨_, _, hk, .bool, by simp [binOp, Op.intCmp]⟩

theorem s_strBin {op : BinOp} {x y : ByteArray} {kk : AC → Prop} {t : TypeId} (hg : gOk gd) (hx : x.data.toList.length ≤ maxLen) (hy : y.data.toList.length ≤ maxLen) (hD : strBin gd op x.data.toList y.data.toList kk) :
    ∃ av v, kk av ∧ (∀ {P w Pr bl}, Rep P w Pr bl av v []) ∧ (binOp op t (.string x) (.string y)).run C.P w = .ok v w := by
  unfold strBin at hD
  have e1 : x.toList = x.data.toList := ByteArray.toList_eq x
  have e2 : y.toList = y.data.toList := ByteArray.toList_eq y
  cases op <;> simp only at hD
  case add =>
    have hl := hD.1 hg
    refine ⟨_, .string (x ++ y), hD.2, .str (by simp) (by simpa using hl), ?_⟩
    have hs : ¬ ((x.size + y.size : Nat) : Int) > IntKind.i64.max := by
      have a1 : x.size = x.data.toList.length := by rw [Array.length_toList]; rfl
      have a2 : y.size = y.data.toList.length := by rw [Array.length_toList]; rfl
      simp only [maxLen] at hl
      rw [IntKind.max_i64, a1, a2]; omega
    simp only [binOp, Op.stringOp, if_neg hs, Sem.run_pure]
  case eql => exact ⟨_, .bool (x.toList == y.toList), hD, by rw [e1, e2, bytes_eq]; exact .bool, rfl⟩
  case neq => exact ⟨_, .bool (!(x.toList == y.toList)), hD, by rw [e1, e2, bytes_eq]; exact .bool, rfl⟩
  case lss => exact ⟨_, _, hD, .bool, by simp only [binOp, Op.stringOp, e1, e2, bytes_eq, Sem.run_pure]⟩
  case leq => exact ⟨_, _, hD, .bool, by simp only [binOp, Op.stringOp, e1, e2, bytes_eq, Sem.run_pure]⟩
  case gtr => exact ⟨_, _, hD, .bool, by simp only [binOp, Op.stringOp, e1, e2, bytes_eq, Sem.run_pure]⟩
  case geq => exact ⟨_, _, hD, .bool, by simp only [binOp, Op.stringOp, e1, e2, bytes_eq, Sem.run_pure]⟩
  all_goals exact hD.elim

theorem s_binOp {op : BinOp} {t t' : TypeId} {x y : Operand} (ho : o.op = .binOp op t x y t') (h : SR C st a w Pr b xs vs) (hg : gOk gd) (hD : wD_binOp C.P C.fi m gd dst op t x y t' st k)
    (hn : Goes C m st b a xs vs o.dst next k) : o.wp C.P a w next Q := by
  unfold wD_binOp at hD
  split at hD
  · rename_i hy
    have ey : y = .const (.slice none 0 0) := by
      unfold isNilC at hy
      split at hy
      · rfl
      · cases hy
    subst ey
    obtain ⟨u, hk, r⟩ := h.un hD hg
    unfold nilCmp at hk
    split at hk
    · rename_i e o2 n cs ht
      obtain hu := tdOf_slice ht
      obtain ⟨hex, hk⟩ := hk
      generalize hsh : share (AC.sl o2 n cs) = sv at r
      obtain ⟨o3, cs3, rfl⟩ : ∃ o' cs', sv = .sl o' n cs' := by rw [← hsh]; cases o2 <;> first | exact ⟨_, _, rfl⟩ | (simp [Ow.isEx] at hex)
      generalize hv : a.eval x = z at r
      have hcase : ∃ (ad : Option Addr) (l c : Nat), z = .slice ad l c ∧ (ad.isNone = true → n = 0) := by
        cases r with
        | slNo _ _ _ _ _ => exact ⟨_, _, _, rfl, fun h => by cases h⟩
        | slNil => exact ⟨_, _, _, rfl, fun _ => rfl⟩
        | _ => exact ⟨_, _, _, rfl, fun h => by cases h⟩
      obtain ⟨ad, l, c, rfl, hn0⟩ := hcase
      exact wp_quiet h hn (hk _ hn0) .bool (by
        have hrn := run_equal_slice_nil w _ _ ad l c hu
        have hcst : a.eval (.const (.slice none 0 0)) = .slice none 0 0 := rfl
        simp [execOp, ho, hv, hcst, eqGuard_at_slice, binOp, hrn])
    · rename_i e o2 n cs ht
      obtain hu := tdOf_slice ht
      obtain ⟨hex, hk⟩ := hk
      generalize hsh : share (AC.sl o2 n cs) = sv at r
      obtain ⟨o3, cs3, rfl⟩ : ∃ o' cs', sv = .sl o' n cs' := by rw [← hsh]; cases o2 <;> first | exact ⟨_, _, rfl⟩ | (simp [Ow.isEx] at hex)
      generalize hv : a.eval x = z at r
      have hcase : ∃ (ad : Option Addr) (l c : Nat), z = .slice ad l c ∧ ((!ad.isNone) = false → n = 0) := by
        cases r with
        | slNo _ _ _ _ _ => exact ⟨_, _, _, rfl, fun h => by cases h⟩
        | slNil => exact ⟨_, _, _, rfl, fun _ => rfl⟩
        | _ => exact ⟨_, _, _, rfl, fun h => by cases h⟩
      obtain ⟨ad, l, c, rfl, hn0⟩ := hcase
      exact wp_quiet h hn (hk _ hn0) .bool (by
        have hrn := run_equal_slice_nil w _ _ ad l c hu
        have hcst : a.eval (.const (.slice none 0 0)) = .slice none 0 0 := rfl
        simp [execOp, ho, hv, hcst, eqGuard_at_slice, binOp, hrn])
    · exact hk.elim
  obtain ⟨u1, hk, r1⟩ := h.un hD hg
  obtain ⟨u2, hk, r2⟩ := h.un hk hg
  unfold wBin at hk
  split at hk
  · simp only [share] at r1 r2
    generalize hv1 : a.eval x = v1 at r1
    generalize hv2 : a.eval y = v2 at r2
    cases r1; cases r2
    obtain ⟨av, v, hk, hr, hrun⟩ := s_intBin (C := C) (w := w) (t := t) hg hk
    exact wp_quiet h hn hk hr (by simp [execOp, ho, hv1, hv2, eqGuard_at_int, hrun])
  · simp only [share] at r1 r2
    generalize hv1 : a.eval x = v1 at r1
    generalize hv2 : a.eval y = v2 at r2
    cases r1 with
    | str e1 l1 =>
      cases r2 with
      | str e2 l2 =>
        subst e1; subst e2
        obtain ⟨av, v, hk, hr, hrun⟩ := s_strBin (C := C) (w := w) (t := t) hg l1 l2 hk
        exact wp_quiet h hn hk hr (by simp [execOp, ho, hv1, hv2, eqGuard_at_string, hrun])
  · simp only [share] at r1 r2
    generalize hv1 : a.eval x = v1 at r1
    generalize hv2 : a.eval y = v2 at r2
    cases r1; cases r2
    rename_i x1 x2
    split at hk
    · rename_i ht
      have hu : C.P.underlying t = some .bool := tdOf_bool ht
      exact wp_quiet h hn hk .bool (by simp [execOp, ho, hv1, hv2, eqGuard_at_bool, binOp, Op.equal, Op.maxDepth, run_equalIn_bool' w _ t _ _ hu]; first | done | exact bool_beq _ _ | rw [bool_beq])
    · rename_i ht
      have hu : C.P.underlying t = some .bool := tdOf_bool ht
      exact wp_quiet h hn hk .bool (by simp [execOp, ho, hv1, hv2, eqGuard_at_bool, binOp, Op.equal, Op.maxDepth, run_equalIn_bool' w _ t _ _ hu]; first | done | exact bool_beq _ _ | rw [bool_beq])
    · exact hk.elim
  · exact absurd hg hk.1
  · exact absurd hg hk.1
  · exact hk.elim


theorem Reps.takeAt {P : Program} {bl : List (List Nat)} {cs : List AC} {vs : List Value} {L : List Nat} (h : Reps P w Pr bl cs vs L) : ∀ {i : Nat} {c : AC}, cs[i]? = some c →
    ∃ (v : Value) (Li L' : List Nat), vs[i]? = some v ∧ Rep P w Pr bl c v Li ∧ (∀ x, Li.count x + L'.count x = L.count x) ∧ ∀ (d : AC) (M : List Nat), Rep P w Pr bl d v M → ∃ L2, Reps P w Pr bl (cs.set i d) vs L2 ∧ ∀ x, L2.count x = L'.count x + M.count x := by
  induction cs generalizing vs L with
  | nil => intro i c hc; simp at hc
  | cons c0 cs ih =>
    intro i c hc
    cases h with
    | cons h1 h2 =>
      rename_i v0 vs0 L1 L2
      cases i with
      | zero =>
        simp only [List.getElem?_cons_zero, Option.some.injEq] at hc; subst hc
        exact ⟨v0, L1, L2, rfl, h1, fun x => by simp, fun d M hd => ⟨M ++ L2, .cons hd h2, fun x => by simp only [List.count_append]; omega⟩⟩
      | succ i =>
        simp only [List.getElem?_cons_succ] at hc
        obtain ⟨v, Li, L', g1, g2, g3, g4⟩ := ih h2 hc
        refine ⟨v, Li, L1 ++ L', by simpa using g1, g2, fun x => by have := g3 x; simp only [List.count_append]; omega, fun d M hd => ?_⟩
        obtain ⟨L3, k1, k2⟩ := g4 d M hd
        exact ⟨L1 ++ L3, .cons h1 k1, fun x => by have := k2 x; simp only [List.count_append]; omega⟩

theorem s_extract {x : Operand} {i : Nat} (ho : o.op = .extract x i) (h : SR C st a w Pr b xs vs) (hg : gOk gd) (hD : wD_extract C.P C.fi m gd o.dst x i st k) (hn : Goes C m st b a xs vs o.dst next k) :
    o.wp C.P a w next Q := by
  unfold wD_extract at hD
  obtain ⟨u, hk, hr0⟩ := un_rep hD
  split at hk
  · rename_i ws
    split at hk
    · rename_i v hv
      obtain ⟨Le, Ll, Lx, Lk, h0⟩ := h
      have full : ∃ L, Rep C.P w Pr (b :: C.bl0) (st.ev x) (a.eval x) L := by
        cases x with
        | tmp t => obtain ⟨L, hl, _⟩ := h0.get t; exact ⟨L, hl⟩
        | const v => exact ⟨[], rep_ofV v⟩
        | func f => exact ⟨[], .fn (by simp) .nil⟩
        | global g => exact ⟨[], .undef⟩
      obtain ⟨L, hf⟩ := full
      have hr := hr0 hg hf
      generalize hx : a.eval x = z at hr
      cases hr with
      | tup hr =>
        rename_i vals
        obtain ⟨y, Li, hy, hry, hc⟩ := hr.get hv
        have hrun : (execOp a.eval o).run C.P w = .ok (.value y) w := by
          have hy' : (vals.toArray)[i]? = some y := by simpa using hy
          simp [execOp, ho, hx, Instr.extract, hy]
        split at hk
        · rename_i hm
          split at hk
          · rename_i s
            have hne : st.get s ≠ .undef := by
              intro e
              simp only [St.ev, e, un] at hD
            obtain ⟨x', Lv, Lr, hx', hrv, hc', hset⟩ := h0.slot rfl hne
            have hxe : x' = .tuple vals.toArray := by
              rw [← hx]; simp only [Act.eval]; exact (getD_of hx').symm
            subst hxe
            have hrt := hr0 hg hrv
            generalize hq : Value.tuple vals.toArray = q at hrt
            cases hrt with
            | tup hrt =>
              rename_i vals'
              have hvv : vals = vals' := by simpa using hq
              subst hvv
              obtain ⟨y', Li', L', hy', hry', hc2, hput⟩ := hrt.takeAt hv
              have hyy : y' = y := by rw [hy] at hy'; cases hy'; rfl
              subst hyy
              obtain ⟨L2, hr2, hc3⟩ := hput .undef [] .undef
              obtain ⟨eK, kE, kL, hset⟩ := hset (.tup (ws.set i .undef))
              obtain ⟨Le', Ll', g1, g2, g3⟩ := hset w Pr _ L2 (fun c z M hM _ => hM) (.tup hr2)
              refine wp_val hrun (hn _ _ _ _ _ b hk ⟨Le', Ll', Li' ++ Lx, Lk, { h0 with env := g1, loc := g2, reg := .cons hry' h0.reg, K := by rw [eK]; exact h0.K, cnt := fun z => ?_, new := fun z hz => h0.new z ?_, kE := kE, kL := kL }⟩ fun e => by simp [e] at hm)
              · have := h0.cnt z; have := g3 z; have := hc' z; have := hc2 z; have := hc3 z
                simp only [List.count_append, List.count_nil] at *; omega
              · have := g3 z; have := hc' z; have := hc2 z; have := hc3 z
                simp only [List.count_append, List.count_nil] at *; omega
          · exact hk.elim
        · exact wp_quiet ⟨Le, Ll, Lx, Lk, h0⟩ hn hk hry.share hrun
    · exact hk.elim
  · exact hk.elim

def isAggD : TypeDesc → Bool
  | .struct _ => true
  | .array _ _ => true
  | _ => false

theorem run_isAgg_of {P : Program} {t : TypeId} {d : TypeDesc} (h : P.underlying t = some d) (w : World) : (isAgg t).run P w = .ok (isAggD d) w := by
  unfold isAgg
  rw [Sem.run_bind, run_underlying h]
  simp only [Result.andThen_ok]
  cases d <;> rfl

theorem run_sizeOf_of {P : Program} {t : TypeId} (h : 0 < P.cellsOf t) (w : World) : (sizeOf t).run P w = .ok (P.cellsOf t) w := by
  unfold Program.cellsOf at h ⊢
  cases hi : P.info? t with
  | none => simp [hi] at h
  | some i => simp [sizeOf, typeInfo, hi]

/-- A variable is read. -/
theorem run_loadVar_of {P : Program} {t : TypeId} (hg : goodTy P t) (hp : 0 < P.cellsOf t) {ad : Addr} {vals : List Value} (hl : vals.length = P.cellsOf t)
    (hc : ∀ j u, vals[j]? = some u → w.cell? (ad.add j) = some u) :
    ∃ v, (loadVar t ad).run P w = .ok v w ∧ ∀ {Pr bl cs L}, Reps P w Pr bl cs vals L → (∀ v ∈ vals, v.oneCell' = true) → ∃ M, Rep P w Pr bl (mkVal P t cs) v M ∧ ∀ x, M.count x ≤ L.count x := by
  obtain ⟨d, hu, hna, hst⟩ := goodTy_und hg
  by_cases hs : ∃ fs, tdOf P t = .struct fs
  · obtain ⟨fs, hfs⟩ := hs
    obtain ⟨gs, rfl⟩ := hst.2 ⟨fs, hfs⟩
    refine ⟨.agg vals.toArray, ?_, fun {Pr bl cs L} hr h1 => ⟨L, ?_, fun x => Nat.le_refl _⟩⟩
    · have := run_loadCells_list (P := P) w ad vals hc
      rw [hl] at this
      simp only [loadVar, Sem.run_bind, run_isAgg_of hu, Result.andThen_ok, isAggD, if_true, run_sizeOf_of hp, this, Sem.run_pure]
    · simp only [mkVal, hfs]; exact .agg hr h1
  · have hd : isAggD d = false := by
      cases d <;> first | rfl | exact absurd (hst.1 ⟨_, rfl⟩) hs | exact absurd rfl (hna _ _)
    have h0 : ∃ v, vals[0]? = some v := by
      cases vals with
      | nil => simp at hl; omega
      | cons v vs => exact ⟨v, rfl⟩
    obtain ⟨v, hv⟩ := h0
    have hcell := hc 0 v hv
    rw [Addr.add_zero'] at hcell
    refine ⟨v, ?_, fun {Pr bl cs L} hr h1 => ?_⟩
    · simp only [loadVar, Sem.run_bind, run_isAgg_of hu, Result.andThen_ok, hd, Bool.false_eq_true, if_false, run_load, hcell]
    · have e : mkVal P t cs = cs.headD .undef := by
        unfold mkVal; split
        · rename_i fs h; exact absurd ⟨fs, h⟩ hs
        · rfl
      rw [e]
      cases hr with
      | nil => exact ⟨[], .undef, fun x => by simp⟩
      | cons g1 g2 =>
        rename_i L1 M1
        simp only [List.getElem?_cons_zero, Option.some.injEq] at hv; subst hv
        exact ⟨L1, g1, fun x => by simp only [List.count_append]; omega⟩

theorem Reps.take_drop {P : Program} {bl : List (List Nat)} {cs : List AC} {vals : List Value} {L : List Nat} (hr : Reps P w Pr bl cs vals L) (i n : Nat) :
    ∃ L', Reps P w Pr bl ((cs.drop i).take n) ((vals.drop i).take n) L' ∧ ∀ x, L'.count x ≤ L.count x := by
  have hlen := hr.length
  rw [← List.take_append_drop i cs] at hr
  obtain ⟨v1, v2, L1, L2, rfl, rfl, hl1, _, h2⟩ := hr.split
  rw [← List.take_append_drop n (cs.drop i)] at h2
  obtain ⟨u1, u2, M1, M2, rfl, rfl, hl2, h3, _⟩ := h2.split
  refine ⟨M1, ?_, fun x => by simp only [List.count_append]; omega⟩
  have e : ((v1 ++ (u1 ++ u2)).drop i).take n = u1 := by
    simp only [List.length_take] at hl1
    simp only [List.length_append, List.length_take, List.length_drop] at hlen hl2
    by_cases hi : i ≤ cs.length
    · have hv1 : v1.length = i := by omega
      rw [List.drop_append_of_le_length (by omega), ← hv1, List.drop_length, List.nil_append]
      by_cases hn : n ≤ cs.length - i
      · have : u1.length = n := by omega
        rw [List.take_append_of_le_length (by omega), List.take_of_length_le (by omega)]
      · have hu2 : u2 = [] := List.eq_nil_of_length_eq_zero (by omega)
        rw [hu2, List.append_nil, List.take_of_length_le (by omega)]
    · have hu : u1 = [] := List.eq_nil_of_length_eq_zero (by omega)
      have hu2 : u2 = [] := List.eq_nil_of_length_eq_zero (by omega)
      rw [hu, hu2]; simp; right; omega
  rw [e]; exact h3
end
end Go.Proofs.YtkpdlbidadcdjaaDoor.Abs
