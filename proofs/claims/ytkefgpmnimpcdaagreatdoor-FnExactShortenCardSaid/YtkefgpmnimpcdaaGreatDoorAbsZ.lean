/- Appending, made slices, conversions. No condition. -/
import Derived.Test.YtkefgpmnimpcdaaGreatDoorAbsL
import Derived.Lib.AppendStr
import Derived.Laws.BytesArg
import Derived.Orders
set_option linter.unusedVariables false
set_option linter.unusedSimpArgs false
namespace Go.Proofs.YtkefgpmnimpcdaaGreatDoor.Abs
open Go
section
variable {P : Program} {w : World} {Pr : Addr → Prop}
variable {C : Cx} {st : St} {a : Act} {w' : World} {Pr' : Addr → Prop} {b : List Nat} {xs : List AC} {vs : List Value} {m : Bool} {gd : Option Bool} {dst : Option Nat}
  {next : Act → World → Prop} {Q : Exit → Act → World → Prop} {k : AC → St → Prop} {o : Oper}

theorem SRL.drew {Le Ll Lx Lk : List Nat} (h : SRL C st a w Pr b xs vs Le Ll Lx Lk) : SRL C st a w.drew Pr b xs vs Le Ll Lx Lk := by
  have hp : ∀ p, Pr p → Pr p ∧ w.drew.cell? p = w.cell? p := fun p hp => ⟨hp, rfl⟩
  have hk : ∀ g, Kept w Pr w.drew Pr g := fun g => ⟨rfl, fun p hp _ => hp⟩
  have hs := h.since
  exact ⟨h.env.kept hp fun x _ => hk x, h.loc.kept hp fun x _ => hk x, h.reg.kept hp fun x _ => hk x, h.K.kept hp (fun x _ => hk x) (fun x _ => hk x), h.cnt, h.new, h.kE, h.kL, h.prlt,
    ⟨hs.os, hs.tape, hs.output, hs.size, hs.block, hs.prot, hs.newPr⟩, h.defers, h.size⟩

theorem run_append_zero {t ty e : TypeId} (ht : P.underlying t = some (.slice e)) (hpos : 0 < P.cellsOf e) {base src : Option Addr} {n cap c2 : Nat} (hn : n ≤ cap) :
    (Builtin.append_ #[t, t] ty #[.slice base n cap, .slice src 0 c2]).run P w = .ok (.slice base n cap) w := by
  cases base <;> cases src <;> simp [Builtin.append_, run_underlying ht, run_sizeOf_of hpos, Builtin.lenOf, hn, Builtin.firstCells, loadCells, loadCellsFrom, storeCells]

/-- What a source of cells is. -/
theorem rep_src {bl : List (List Nat)} {ow : Ow} {n : Nat} {cells : List AC} {z : Value} {L : List Nat} (hr : Rep P w Pr bl (.sl ow n cells) z L) :
    (∃ cap, z = .slice none n cap ∧ n = 0 ∧ cells = []) ∨ ∃ p cap vals L', z = .slice (some p) n cap ∧ Reps P w Pr [] cells vals L' ∧ (∀ x, L'.count x ≤ L.count x) ∧ (∀ v ∈ vals, v.oneCell' = true) ∧
      (∀ j u, vals[j]? = some u → w.cell? (p.add j) = some u) := by
  cases hr with
  | slNo h1 h2 h3 h4 h5 => exact .inr ⟨_, _, _, _, rfl, h1, fun x => Nat.le_refl _, h2, fun j u hu => (h3 j u hu).2⟩
  | slNil => exact .inl ⟨_, rfl, rfl, rfl⟩
  | slOf h1 h2 h3 h4 h5 h6 h7 h8 h9 h10 =>
    rename_i e vals g cap L cur
    refine .inr ⟨_, _, _, _, rfl, h1, fun x => by rw [List.count_cons]; omega, h2, fun j u hu => ?_⟩
    rw [Addr.add_lit, Nat.zero_add, cell_of_row w _ _ _ _ _ h3]
    rw [← h8, List.getElem?_take] at hu
    split at hu
    · simpa using hu
    · cases hu
  | slEx h1 h2 h3 h4 h5 h6 h7 h8 h9 =>
    rename_i e vals g cap L cur
    refine .inr ⟨_, _, _, _, rfl, h1, fun x => by rw [List.count_cons]; omega, h2, fun j u hu => ?_⟩
    rw [Addr.add_lit, Nat.zero_add, cell_of_row w _ _ _ _ _ h3]
    rw [← h8, List.getElem?_take] at hu
    split at hu
    · simpa using hu
    · cases hu

theorem cell_prefix {g : Nat} {cur cur' : Array Value} {T : TypeId} {p : Addr} (hh : w.heap[g]? = some (.cells cur T (0, 0))) (hb : p.block = g) (he : cur'[p.off]? = cur[p.off]?) :
    (w.setRow g cur').cell? p = w.cell? p := by
  have h1 := setRow_heap w g cur cur' T (0, 0) hh
  simp only [World.cell?, hb, h1, hh, he]

theorem appOw_cases {keep : Bool} {e : TypeId} {ow o' : Ow} (h : appOw keep e ow = some o') :
    ∃ kp : Bool, o' = (if kp = true then .ex e else .of e) ∧ (ow = .nil ∨ (kp = false ∧ ow = .of e) ∨ (kp = true ∧ ow = .ex e)) := by
  cases ow with
  | nil =>
    simp only [appOw, Option.some.injEq] at h
    exact ⟨keep, by rw [← h], .inl rfl⟩
  | of e' =>
    simp only [appOw] at h
    split at h
    · rename_i e1; subst e1; cases h; exact ⟨false, rfl, .inr (.inl ⟨rfl, rfl⟩)⟩
    · cases h
  | ex e' =>
    simp only [appOw] at h
    split at h
    · rename_i e1; subst e1; cases h; exact ⟨true, rfl, .inr (.inr ⟨rfl, rfl⟩)⟩
    · cases h
  | no => simp [appOw] at h

/-- What an append does with a source, whatever the source is. -/
structure AppRuns (P : Program) (w : World) (ts : Array TypeId) (ty : TypeId) (xv : Value) (e : TypeId) (n c : Nat) (nvals : List Value) : Prop where
  zero : c = 0 → ∀ (base : Option Addr) (cap : Nat), n ≤ cap → (Builtin.append_ ts ty #[.slice base n cap, xv]).run P w = .ok (.slice base n cap) w
  nil : ∀ (i : TypeInfo) (z : Value), P.info? e = some i → i.zero = some z → nvals.length = c * i.size → 0 < c → (c : Int) ≤ 9223372036854775807 → c * i.bytes ≤ 281474976710656 →
    (Builtin.append_ ts ty #[.slice none 0 0, xv]).run P w = .ok (.slice (some ⟨w.heap.size, 0, none⟩) c (grownCap w c 0 e)) (w.drew.alloc (.cells (nvals.toArray ++ Builtin.zeroCells z.cells (grownCap w c 0 e - c)) e))
  room : 0 < c → ∀ (i : TypeInfo), P.info? e = some i → nvals.length = c * i.size → ∀ (g cap : Nat) (cur : Array Value), w.heap[g]? = some (.cells cur e (0, 0)) → (∀ v ∈ nvals, v.oneCell' = true) → n + c ≤ cap → n * i.size + nvals.length ≤ cur.size →
    (Builtin.append_ ts ty #[.slice (some ⟨g, 0, none⟩) n cap, xv]).run P w = .ok (.slice (some ⟨g, 0, none⟩) (n + c) cap) (w.setRow g (cur.toList.take (n * i.size) ++ nvals ++ cur.toList.drop (n * i.size + nvals.length)).toArray)
  grow : 0 < c → ∀ (i : TypeInfo) (z : Value), P.info? e = some i → i.zero = some z → nvals.length = c * i.size → ∀ (bb : Addr) (cap : Nat) (olds : List Value), olds.length = n * i.size → (∀ j v, olds[j]? = some v → w.cell? (bb.add j) = some v) →
    cap < n + c → ((n + c : Nat) : Int) ≤ 9223372036854775807 → Builtin.nextslicecap (n + c) cap * i.bytes ≤ 281474976710656 →
    (Builtin.append_ ts ty #[.slice (some bb) n cap, xv]).run P w = .ok (.slice (some ⟨w.heap.size, 0, none⟩) (n + c) (grownCap w (n + c) cap e))
        (w.drew.alloc (.cells (olds.toArray ++ nvals.toArray ++ Builtin.zeroCells z.cells (grownCap w (n + c) cap e - (n + c))) e))

theorem append_core {s : Nat} {x : Operand} {ts : Array TypeId} {e : TypeId} {sv xv : Value} {sc : AC} {st' : St} {ow o' : Ow} {keep : Bool} {n c : Nat} {cells new : List AC}
    (ho : o.op = .call { callee := .builtin .append, args := #[.tmp s, x], argTypes := ts }) (hsv' : a.eval (.tmp s) = sv) (hxv : a.eval x = xv) (hsrc : ∀ L1, Rep C.P w Pr (b :: C.bl0) sc xv L1 → ∃ nvals Ln, Reps C.P w Pr [] new nvals Ln ∧ (∀ x, Ln.count x ≤ L1.count x) ∧ (∀ v ∈ nvals, v.oneCell' = true) ∧ AppRuns C.P w ts o.type xv e n c nvals)
    (hS : SR C st' a w Pr b (sc :: .sl ow n cells :: xs) (xv :: sv :: vs)) (how : appOw keep e ow = some o') (hpos : 0 < C.P.cellsOf e) (hzs : zeroLen C.P e) (hmax : n + c ≤ maxLen)
    (hby : (n + c) * C.P.bytesOf e ≤ 140737488355328) (hnl : new.length = c * C.P.cellsOf e) (hk : k (.sl o' (n + c) (cells ++ new)) st')
    (hgo : ∀ av v' w' Pr', k av st' → SR C st' a w' Pr' b (av :: xs) (v' :: vs) → (execOp a.eval o).run C.P w = .ok (.value v') w' → o.wp C.P a w next Q) : o.wp C.P a w next Q := by
    obtain ⟨kp, ho2, how2⟩ := appOw_cases how
    clear how
    subst ho2
    have how := how2
    clear how2
    have hzx : ∃ zc, zeroOf C.P e = some zc ∧ zc.length = C.P.cellsOf e := by
      unfold zeroLen at hzs
      cases hz0 : zeroOf C.P e with
      | none => simp [hz0] at hzs
      | some zc => simp [hz0] at hzs; exact ⟨zc, rfl, hzs⟩
    obtain ⟨zc, hzc, hzcl⟩ := hzx
    obtain ⟨i, z, hi, hzz, hzeq⟩ := info_of_zero hzc
    have hsz : C.P.cellsOf e = i.size := cellsOf_info hi
    have hbz : C.P.bytesOf e = i.bytes := by simp [Program.bytesOf, hi]
    obtain ⟨Le, Ll, Lx, Lk, hl⟩ := hS
    have hreg := hl.reg
    cases hreg with
    | cons r1 rest =>
      rename_i L1 M1
      cases rest with
      | cons r2 r3 =>
        rename_i L2 Lx'
        have hrun0 : (execOp a.eval o).run C.P w = (((Builtin.append_ ts o.type #[sv, xv]).run C.P w).andThen fun v w' => .ok (.value v) w') := by
          simp [execOp, ho, resolve, invoke, builtin, hsv', hxv]
        have hbase : SRL C st' a w Pr b xs vs Le Ll Lx' Lk := { hl with
          reg := r3
          cnt := fun x => by have := hl.cnt x; simp only [List.count_append] at this ⊢; omega
          new := fun x hx => hl.new x (by simp only [List.count_append] at hx ⊢; omega) }
        have hcnt : ∀ x, L1.count x + L2.count x + Le.count x + Ll.count x + Lx'.count x + Lk.count x + (b :: C.bl0).flatten.count x ≤ 1 := fun x => by
          have := hl.cnt x; simp only [List.count_append] at this; omega
        have hnew : ∀ x, 0 < L1.count x + L2.count x → x ∈ C.F ∨ C.w0.heap.size ≤ x := fun x hx => hl.new x (by simp only [List.count_append]; omega)
        obtain ⟨nvals, Ln, g1, gc, g2, hR⟩ := hsrc L1 r1
        rcases Nat.eq_zero_or_pos c with hc0 | hcpos
        · -- nothing is appended
          subst hc0
          have hnew0 : new = [] := List.eq_nil_of_length_eq_zero (by simpa using hnl)
          subst hnew0
          rw [List.append_nil, Nat.add_zero] at hk
          have hsl : ∃ base cap, sv = .slice base n cap ∧ n ≤ cap := by
            cases r2 with
            | slNo h1 h2 h3 h4 h5 => exact ⟨_, _, rfl, h4⟩
            | slNil => exact ⟨_, _, rfl, Nat.le_refl _⟩
            | slOf h1 h2 h3 h4 => exact ⟨_, _, rfl, h4⟩
            | slEx h1 h2 h3 h4 => exact ⟨_, _, rfl, h4⟩
          obtain ⟨base, cap, rfl, hle⟩ := hsl
          have r2' : Rep C.P w Pr (b :: C.bl0) (.sl (if kp = true then .ex e else .of e) n cells) (.slice base n cap) L2 := by
            rcases how with rfl | ⟨rfl, rfl⟩ | ⟨rfl, rfl⟩
            · cases r2 with
              | slNil => exact .slNil
            · exact r2
            · exact r2
          refine hgo _ _ w Pr hk (SR.back (Lu := L2) hbase r2' (fun x => by have := hcnt x; omega) (fun x hx => hnew x (by omega)) (fun x => Nat.le_refl _)) ?_
          rw [hrun0, hR.zero rfl base cap hle]; rfl
        · -- something is appended
          · have hnv : nvals.length = c * i.size := by rw [← g1.length, hnl, hsz]
            have newRow : ∀ (ovals : List Value) (Lo : List Nat) (old : Nat), Reps C.P w Pr [] cells ovals Lo → (∀ v ∈ ovals, v.oneCell' = true) → ovals.length = n * i.size → (∀ x, Lo.count x ≤ L2.count x) →
                ∀ arr : Array Value, arr = ovals.toArray ++ nvals.toArray ++ Builtin.zeroCells z.cells (grownCap w (n + c) old e - (n + c)) →
                SR C st' a (w.drew.alloc (.cells arr e)) (fun p => Pr p ∨ (kp = false ∧ p.block = w.drew.heap.size ∧ p.spot = none ∧ p.off < (n + c) * C.P.cellsOf e)) b (.sl (if kp = true then .ex e else .of e) (n + c) (cells ++ new) :: xs) (.slice (some ⟨w.drew.heap.size, 0, none⟩) (n + c) (grownCap w (n + c) old e) :: vs) := by
              intro ovals Lo old q1 q2 q3 q4 arr harr
              have hge := grownCap_ge w (n + c) old e
              have hz : z.cells.size = i.size := by
                have : (zc).length = z.cells.size := by rw [hzeq]; simp
                omega
              refine SR.newRowCap kp (L0 := Lo ++ Ln) (vals := ovals ++ nvals) hbase.drew ?_ ?_ hpos ?_ hge (grownCap_le_maxLen w (n + c) old e hmax) ?_ (fun x => ?_) (fun x hx => ?_)
              · have hp : ∀ p, Pr p → Pr p ∧ w.drew.cell? p = w.cell? p := fun p hp => ⟨hp, rfl⟩
                exact (q1.append g1).kept hp fun x _ => ⟨rfl, fun p hp _ => hp⟩
              · intro v hv
                rcases List.mem_append.1 hv with hv | hv
                · exact q2 v hv
                · exact g2 v hv
              · rw [harr]; simp only [Array.size_append, List.size_toArray, size_zeroCells, q3, hnv, hz, hsz, ← Nat.add_mul]; congr 1; omega
              · rw [harr, hsz]
                simp only [Array.toList_append, List.append_assoc]
                have e1 : (n + c) * i.size = (ovals ++ nvals).length := by rw [List.length_append, q3, hnv, Nat.add_mul]
                rw [e1, ← List.append_assoc]; exact List.take_left
              · have := hcnt x; have := q4 x; have := gc x; simp only [List.count_append] at *; omega
              · exact hnew x (by have := q4 x; have := gc x; simp only [List.count_append] at *; omega)
            have hby' : (n + c) * i.bytes ≤ 140737488355328 := by rw [← hbz]; exact hby
            have nilCase : sv = .slice none 0 0 → n = 0 → cells = [] → o.wp C.P a w next Q := by
              intro e1 e2 e3
              subst e2; subst e3
              have hr := hR.nil i z hi hzz hnv hcpos (by unfold maxLen at hmax; omega) (by rw [Nat.zero_add] at hby'; omega)
              have hN := newRow [] [] 0 .nil (by simp) (by simp) (fun x => by simp) _ rfl
              simp only [Nat.zero_add, List.nil_append] at hN hk
              refine hgo _ _ _ _ hk hN ?_
              rw [hrun0, e1, hr]
              simp
            have key : (sv = .slice none 0 0 ∧ n = 0 ∧ cells = []) ∨ ∃ ovals g cap Lo cur, sv = .slice (some ⟨g, 0, none⟩) n cap ∧ L2 = g :: Lo ∧ Reps C.P w Pr [] cells ovals Lo ∧ (∀ v ∈ ovals, v.oneCell' = true) ∧
                w.heap[g]? = some (.cells cur e (0, 0)) ∧ n ≤ cap ∧ cap ≤ maxLen ∧ cap * C.P.cellsOf e ≤ cur.size ∧ cur.toList.take (n * C.P.cellsOf e) = ovals ∧
                (∀ q, Pr q → q.block = g → q.off < n * C.P.cellsOf e) ∧ (kp = true → ∀ q, Pr q → q.block ≠ g) := by
              rcases how with rfl | ⟨rfl, rfl⟩ | ⟨rfl, rfl⟩
              · cases r2 with
                | slNil => exact .inl ⟨rfl, rfl, rfl⟩
              · cases r2 with
                | slNil => exact .inl ⟨rfl, rfl, rfl⟩
                | slOf h1 h2 h3 h4 h5 h6 h7 h8 h9 h10 => exact .inr ⟨_, _, _, _, _, rfl, rfl, h1, h2, h3, h4, h5, h7, h8, h9, fun h => by cases h⟩
              · cases r2 with
                | slNil => exact .inl ⟨rfl, rfl, rfl⟩
                | slEx h1 h2 h3 h4 h5 h6 h7 h8 h9 => exact .inr ⟨_, _, _, _, _, rfl, rfl, h1, h2, h3, h4, h5, h7, h8, fun q hq hb => absurd hb (h9 q hq), fun _ => h9⟩
            rcases key with ⟨e1, e2, e3⟩ | ⟨ovals, g, cap, Lo, cur, rfl, rfl, h1, h2, h3, h4, h5, h7, h8, h9, h10⟩
            · exact nilCase e1 e2 e3
            · skip
              have hov : ovals.length = n * i.size := by
                rw [hsz] at h7
                rw [← h8, List.length_take, Array.length_toList, hsz]
                exact Nat.min_eq_left (Nat.le_trans (Nat.mul_le_mul_right _ h4) h7)
              by_cases hroom : n + c ≤ cap
              · -- in place
                have hfit : n * i.size + nvals.length ≤ cur.size := by rw [hsz] at h7; rw [hnv, ← Nat.add_mul]; exact Nat.le_trans (Nat.mul_le_mul_right _ hroom) h7
                have hr := hR.room hcpos i hi hnv g cap cur h3 g2 hroom hfit
                have hcs : (cur.toList.take (n * i.size)) = ovals := by rw [← hsz]; exact h8
                generalize hcur' : (cur.toList.take (n * i.size) ++ nvals ++ cur.toList.drop (n * i.size + nvals.length)).toArray = cur' at hr
                have hcsz : cap * C.P.cellsOf e ≤ cur'.size := by
                  rw [← hcur']
                  refine Nat.le_trans h7 ?_
                  simp only [List.size_toArray, List.length_append, List.length_take, List.length_drop, Array.length_toList]
                  omega
                have hpre : ∀ j, j < n * i.size → cur'[j]? = cur[j]? := by
                  intro j hj
                  rw [← hcur', List.getElem?_toArray, List.append_assoc, List.getElem?_append_left (by rw [hcs, hov]; exact hj), List.getElem?_take, if_pos hj]
                  simp
                have hp : ∀ q, Pr q → (Pr q ∨ (kp = false ∧ q.block = g ∧ q.spot = none ∧ q.off < (n + c) * C.P.cellsOf e)) ∧ (w.setRow g cur').cell? q = w.cell? q := by
                  intro q hq
                  refine ⟨.inl hq, ?_⟩
                  by_cases hqb : q.block = g
                  · exact cell_prefix h3 hqb (hpre _ (by rw [← hsz]; exact h9 q hq hqb))
                  · exact cell_setRow_other w g _ q hqb
                have hkp : ∀ y, y ≠ g → Kept w Pr (w.setRow g cur') (fun q => Pr q ∨ (kp = false ∧ q.block = g ∧ q.spot = none ∧ q.off < (n + c) * C.P.cellsOf e)) y :=
                  fun y hy => ⟨setRow_other w g y _ hy, fun q hq e => by rcases hq with hq | ⟨_, hq, _⟩; exact hq; exact absurd (e.symm.trans hq) hy⟩
                have hne : ∀ y, 0 < Lo.count y + L1.count y + Le.count y + Ll.count y + Lx'.count y + Lk.count y + (b :: C.bl0).flatten.count y → y ≠ g := by
                  intro y hy e; subst e
                  have := hcnt y
                  rw [List.count_cons_self] at this
                  omega
                have hgF : g ∈ C.F ∨ C.w0.heap.size ≤ g := hnew g (by rw [List.count_cons_self]; omega)
                have hs := hl.since
                have g1' := g1.kept hp fun y hy => hkp y (hne y (by have := List.count_pos_iff.2 hy; have := gc y; omega))
                have h1' := h1.kept hp fun y hy => hkp y (hne y (by have := List.count_pos_iff.2 hy; omega))
                refine hgo _ (.slice (some ⟨g, 0, none⟩) (n + c) cap) (w.setRow g cur') (fun q => Pr q ∨ (kp = false ∧ q.block = g ∧ q.spot = none ∧ q.off < (n + c) * C.P.cellsOf e)) hk ?_ (by rw [hrun0, hr]; rfl)
                refine ⟨Le, Ll, (g :: (Lo ++ Ln)) ++ Lx', Lk, ⟨?_, ?_, ?_, ?_, fun y => ?_, fun y hy => ?_, hl.kE, hl.kL, fun q hq => ?_, ⟨hs.os, hs.tape, hs.output, (by simpa using hs.size), fun y hy hF => ?_, fun q hq => ?_, fun q hq => ?_⟩, hl.defers, hl.size⟩⟩
                · exact hl.env.kept hp fun y hy => hkp y (hne y (by have := List.count_pos_iff.2 hy; omega))
                · exact hl.loc.kept hp fun y hy => hkp y (hne y (by have := List.count_pos_iff.2 hy; omega))
                · refine Reps.cons ?_ (r3.kept hp fun y hy => hkp y (hne y (by have := List.count_pos_iff.2 hy; omega)))
                  have e1 : (n + c) * i.size = (ovals ++ nvals).length := by rw [List.length_append, hov, hnv, Nat.add_mul]
                  have hone : ∀ v ∈ ovals ++ nvals, v.oneCell' = true := fun v hv => by
                    rcases List.mem_append.1 hv with hv | hv
                    · exact h2 v hv
                    · exact g2 v hv
                  have htk : cur'.toList.take ((n + c) * C.P.cellsOf e) = ovals ++ nvals := by
                    rw [← hcur', hcs, hsz, e1]; exact List.take_left
                  cases kp with
                  | false =>
                    refine .slOf (cur := cur') (h1'.append g1') hone (setRow_heap w g cur cur' e _ h3) hroom h5 hpos hcsz htk ?_ ?_
                    · rintro q (hq | ⟨_, _, _, hq⟩) e
                      · have := h9 q hq e
                        rw [Nat.add_mul]; omega
                      · exact hq
                    · intro j hj; exact .inr ⟨rfl, rfl, rfl, hj⟩
                  | true =>
                    refine .slEx (cur := cur') (h1'.append g1') hone (setRow_heap w g cur cur' e _ h3) hroom h5 hpos hcsz htk ?_
                    rintro q (hq | ⟨hq, _⟩) e
                    · exact h10 rfl q hq e
                    · cases hq
                · exact hl.K.kept hp (fun y hy => hkp y (hne y (by have := List.count_pos_iff.2 hy; omega))) (fun y hy => hkp y (hne y (by have := List.count_pos_iff.2 hy; omega)))
                · have := hcnt y; have := gc y
                  simp only [List.cons_append, List.count_cons, List.count_append] at *
                  omega
                · have := gc y
                  by_cases h0 : 0 < (g :: Lo).count y + L1.count y
                  · exact hnew y (by omega)
                  · refine hbase.new y ?_
                    simp only [List.cons_append, List.count_cons, List.count_append] at *
                    omega
                · rcases hq with hq | ⟨_, hq, _⟩
                  · simpa using hl.prlt q hq
                  · rw [hq]; simpa using (Array.getElem?_eq_some_iff.1 h3).1
                · exact (setRow_other w g y _ (fun e => by subst e; rcases hgF with h | h; exact hF h; omega)).trans (hs.block y hy hF)
                · exact ⟨.inl (hs.prot q hq).1, ((hp q (hs.prot q hq).1).2).trans (hs.prot q hq).2⟩
                · rcases hq with hq | ⟨_, hq, _⟩
                  · exact hs.newPr q hq
                  · rw [hq]; rcases hgF with h | h
                    · exact .inr (.inl h)
                    · exact .inr (.inr h)
              · -- a new row
                have holds : ∀ j u, ovals[j]? = some u → w.cell? ((⟨g, 0, none⟩ : Addr).add j) = some u := by
                  intro j u hj
                  rw [Addr.add_lit, Nat.zero_add, cell_of_row w _ _ _ _ _ h3]
                  rw [← h8, List.getElem?_take] at hj
                  split at hj
                  · simpa using hj
                  · cases hj
                have hr := hR.grow hcpos i z hi hzz hnv ⟨g, 0, none⟩ cap ovals hov holds (by omega) (by unfold maxLen at hmax; omega) (growslice_fits (by omega) hby')
                refine hgo _ _ _ _ hk (newRow ovals Lo cap h1 h2 hov (fun x => by rw [List.count_cons]; omega) _ rfl) ?_
                rw [hrun0, hr]; rfl

theorem src_slice {t ty e : TypeId} {bl : List (List Nat)} {ow2 : Ow} {n c : Nat} {new : List AC} {xv : Value} (hu : P.underlying t = some (.slice e)) (hpos : 0 < P.cellsOf e) (L1 : List Nat) (r1 : Rep P w Pr bl (.sl ow2 c new) xv L1) :
    ∃ nvals Ln, Reps P w Pr [] new nvals Ln ∧ (∀ x, Ln.count x ≤ L1.count x) ∧ (∀ v ∈ nvals, v.oneCell' = true) ∧ AppRuns P w #[t, t] ty xv e n c nvals := by
  rcases rep_src r1 with ⟨cap, rfl, rfl, rfl⟩ | ⟨p, c2, nvals, Ln, rfl, g1, gc, g2, g3⟩
  · exact ⟨[], [], .nil, fun x => by simp, by simp, ⟨fun _ base cap h => run_append_zero hu hpos h, fun i z _ _ _ h => absurd h (by omega), fun h => absurd h (by omega), fun h => absurd h (by omega)⟩⟩
  · exact ⟨nvals, Ln, g1, gc, g2, ⟨fun h base cap hn => by subst h; exact run_append_zero hu hpos hn, fun i z hi hz hl h0 h63 h48 => run_append_nil w t ty e i z hu hi hz p c c2 nvals hl g3 h0 h63 h48,
      fun _ i hi hl g cap cur hg h1 h2 h3 => run_append_room w t ty e i hu hi g n cap cur hg p c c2 nvals hl g3 h1 h2 h3,
      fun _ i z hi hz hl bb cap olds h1 h2 h3 h4 h5 => run_append_grow w t ty e i z hu hi hz bb n cap olds h1 h2 p c c2 nvals hl g3 h3 h4 h5⟩⟩
theorem reps_bytes {bl : List (List Nat)} : ∀ s : List UInt8, Reps P w Pr bl (byteCells s) (s.map fun b => Value.int .u8 b.toNat) [] := by
  intro s; induction s with
  | nil => exact .nil
  | cons b s ih => exact Reps.cons (L := []) (M := []) .int ih
theorem run_append_zero_string {t u ty e : TypeId} (ht : P.underlying t = some (.slice e)) (hu : P.underlying u = some .string) (hpos : 0 < P.cellsOf e) {base : Option Addr} {n cap : Nat} {s : ByteArray} (h0 : s.size = 0) (hn : n ≤ cap) :
    (Builtin.append_ #[t, u] ty #[.slice base n cap, .string s]).run P w = .ok (.slice base n cap) w := by
  cases base <;> simp [Builtin.append_, run_underlying ht, run_underlying hu, run_sizeOf_of hpos, Builtin.lenOf, hn, h0, Builtin.firstCells, loadCells, loadCellsFrom, storeCells]
theorem src_string {t u ty e : TypeId} {bl : List (List Nat)} {n : Nat} {ss : List UInt8} {xv : Value} (ht : P.underlying t = some (.slice e)) (hu : P.underlying u = some .string) (h1 : P.cellsOf e = 1) (L1 : List Nat) (r1 : Rep P w Pr bl (.str ss) xv L1) :
    ∃ nvals Ln, Reps P w Pr [] (byteCells ss) nvals Ln ∧ (∀ x, Ln.count x ≤ L1.count x) ∧ (∀ v ∈ nvals, v.oneCell' = true) ∧ AppRuns P w #[t, u] ty xv e n ss.length nvals := by
  cases r1 with
  | str e1 hl =>
    rename_i bs
    subst e1
    have hs : bs.size = bs.data.toList.length := rfl
    have hi1 : ∀ i, P.info? e = some i → i.size = 1 := fun i hi => by rw [← h1]; exact (cellsOf_info hi).symm
    have hsc : Lib.strCells bs = bs.data.toList.map fun b => Value.int .u8 b.toNat := rfl
    refine ⟨_, [], reps_bytes _, fun x => by simp, by simp; intro b hb; rfl, ⟨fun h base cap hn => run_append_zero_string ht hu (by omega) (by rw [hs]; exact h) hn, ?_, ?_, ?_⟩⟩
    · intro i z hi hz hlen h0 h63 h48
      have := run_append_nil_string (P := P) w t u ty e i z ht hu hi hz bs (by rw [hs]; exact h0) (by rw [hs]; exact h63) (by rw [hs]; exact h48)
      rw [hs] at this
      rw [this]
      congr 5
      apply Array.ext'; simp
    · intro _ i hi hlen g cap cur hg hone hroom hfit
      have := Lib.run_append_room_string (P := P) (w := w) t u ty e i ht hu hi (hi1 i hi) g n cap cur hg bs (by rw [hs]; exact hroom) (by rw [hi1 i hi, List.length_map] at hfit; rw [hs]; omega)
      rw [hs, hsc] at this
      rw [this, hi1 i hi, List.length_map, Nat.mul_one]
    · intro _ i z hi hz hlen bb cap olds h1 h2 h3 h4 h5
      have := Lib.run_append_grow_string (P := P) (w := w) t u ty e i z ht hu hi hz bb n cap olds h1 h2 bs (by rw [hs]; exact h3) (by rw [hs]; exact h4) (by rw [hs]; exact h5)
      rw [hs, hsc] at this
      exact this

theorem s_append {s : Nat} {x : Operand} {t : TypeId} (ho : o.op = .call { callee := .builtin .append, args := #[.tmp s, x], argTypes := #[t, t] }) (h : SR C st a w Pr b xs vs) (hg : gOk gd) {keep : Bool}
    (hm : m = true) (hD : Abs.wT C.fi m gd (st.weak s) x fun v st' => wAppend C.P keep (tdOf C.P t) (st.get s) v fun v => k v st') (hn : Goes C m st b a xs vs o.dst next k) : o.wp C.P a w next Q := by
  have h0 := h.take s
  obtain ⟨v, st', hk, hS, hKe, _⟩ := h0.wT hD hg
  have hgo : ∀ av v' w' Pr', k av st' → SR C st' a w' Pr' b (av :: xs) (v' :: vs) → (execOp a.eval o).run C.P w = .ok (.value v') w' → o.wp C.P a w next Q :=
    fun av v' w' Pr' hk hS hr => wp_val hr (hn _ _ _ _ _ _ hk hS fun e => by rw [hm] at e; cases e)
  generalize hsv : a.tmps.getD s undef = sv at hS
  have hsv' : a.eval (.tmp s) = sv := hsv
  generalize hxv : a.eval x = xv at hS
  unfold wAppend at hk
  split at hk
  · rename_i td s0 v0 e ow n cells ow2 c new htd hs
    split at hk
    · rename_i o' how
      obtain ⟨hpos, hzs, hmax, hby, hnl, hk⟩ := hk
      rw [hs] at hS
      exact append_core ho hsv' hxv (src_slice (tdOf_slice htd) hpos) hS how hpos hzs hmax hby hnl hk hgo
    · exact hk.elim
  · rename_i td s0 v0 e y ow n cells ow2 c new htd hs
    split at hk
    · rename_i o' how
      obtain ⟨hpos, hzs, hmax, hby, hnl, hk⟩ := hk
      rw [hs] at hS
      have hS2 : SR C st' a w Pr b (.sl ow2 c new :: .sl ow n cells :: xs) (xv :: sv :: vs) := by
        obtain ⟨Le, Ll, Lx, Lk, hl⟩ := hS
        have hreg := hl.reg
        cases hreg with
        | cons r1 rest =>
          cases rest with
          | cons r2 r3 => exact ⟨_, _, _, _, { hl with reg := .cons r1 (.cons r2.nam_inv r3) }⟩
      exact append_core ho hsv' hxv (src_slice (tdOf_slice htd) hpos) hS2 how hpos hzs hmax hby hnl hk hgo
    · exact hk.elim
  · exact hk.elim
theorem s_appendS {s : Nat} {x : Operand} {t u : TypeId} (ho : o.op = .call { callee := .builtin .append, args := #[.tmp s, x], argTypes := #[t, u] }) (h : SR C st a w Pr b xs vs) (hg : gOk gd) {keep : Bool} (hu : tdOf C.P u = .str)
    (hm : m = true) (hD : Abs.wT C.fi m gd (st.weak s) x fun v st' => wAppendS C.P keep (tdOf C.P t) (st.get s) v fun v => k v st') (hn : Goes C m st b a xs vs o.dst next k) : o.wp C.P a w next Q := by
  have h0 := h.take s
  obtain ⟨v, st', hk, hS, hKe, _⟩ := h0.wT hD hg
  have hgo : ∀ av v' w' Pr', k av st' → SR C st' a w' Pr' b (av :: xs) (v' :: vs) → (execOp a.eval o).run C.P w = .ok (.value v') w' → o.wp C.P a w next Q :=
    fun av v' w' Pr' hk hS hr => wp_val hr (hn _ _ _ _ _ _ hk hS fun e => by rw [hm] at e; cases e)
  generalize hsv : a.tmps.getD s undef = sv at hS
  have hsv' : a.eval (.tmp s) = sv := hsv
  generalize hxv : a.eval x = xv at hS
  unfold wAppendS at hk
  split at hk
  · rename_i td s0 v0 e ow n cells ss htd hs
    split at hk
    · rename_i o' how
      obtain ⟨h1, hzs, hmax, hby, hk⟩ := hk
      rw [hs] at hS
      exact append_core ho hsv' hxv (src_string (tdOf_slice htd) (tdOf_str hu) h1) hS how (by omega) hzs hmax hby (by unfold byteCells; rw [List.length_map, h1, Nat.mul_one]) hk hgo
    · exact hk.elim
  · exact hk.elim
end
end Go.Proofs.YtkefgpmnimpcdaaGreatDoor.Abs
/- Made slices, conversions, calls; then all operations, regions and code. No condition. -/
set_option linter.unusedVariables false
set_option linter.unusedSimpArgs false
namespace Go.Proofs.YtkefgpmnimpcdaaGreatDoor.Abs
open Go
section
variable {P : Program} {w : World} {Pr : Addr → Prop}
variable {C : Cx} {st : St} {a : Act} {w' : World} {Pr' : Addr → Prop} {b : List Nat} {xs : List AC} {vs : List Value} {m : Bool} {gd : Option Bool} {dst : Option Nat}
  {next : Act → World → Prop} {Q : Exit → Act → World → Prop} {k : AC → St → Prop} {o : Oper}

theorem s_makeSlice {t : TypeId} {x y : Operand} (ho : o.op = .makeSlice t x y) (h : SR C st a w Pr b xs vs) (hg : gOk gd) (hD : wD_makeSlice C.P C.fi m gd dst t x y st k) (hn : Goes C m st b a xs vs o.dst next k) :
    o.wp C.P a w next Q := by
  unfold wD_makeSlice at hD
  obtain ⟨u1, hk, r1⟩ := h.un hD hg
  obtain ⟨u2, hk, r2⟩ := h.un hk hg
  split at hk
  · rename_i td k1 n k2 c e htd _
    obtain ⟨hb, hpos, hk⟩ := hk
    obtain ⟨b0, b1, b2, b3⟩ := hb hg
    subst b1
    have hu := tdOf_slice htd
    split at hk
    · rename_i zs hz
      obtain ⟨hst, hfl, hzl, hk⟩ := hk
      obtain ⟨i, z, hi, hzz, rfl⟩ := info_of_zero hz
      simp only [share] at r1 r2
      generalize hv1 : a.eval x = z1 at r1
      generalize hv2 : a.eval y = z2 at r2
      cases r1; cases r2
      obtain ⟨Le, Ll, Lx, Lk, h0⟩ := h
      have hzsz : z.cells.size = C.P.cellsOf e := by simpa using hzl
      have hsz : C.P.cellsOf e = i.size := cellsOf_info hi
      have hbz : C.P.bytesOf e = i.bytes := by simp [Program.bytesOf, hi]
      have hreps : Reps C.P w Pr [] (List.replicate n.toNat (z.cells.toList.map ofV)).flatten ((Array.range (n.toNat * z.cells.size)).map fun j => z.cells[j % z.cells.size]!).toList [] := by
        rw [range_mod]; exact reps_replicate (reps_ofV _) _
      refine wp_val (v := .slice (some ⟨w.heap.size, 0, none⟩) n.toNat n.toNat) (w' := w.alloc (.cells ((Array.range (n.toNat * z.cells.size)).map fun j => z.cells[j % z.cells.size]!) e)) ?_
        (hn _ _ _ _ _ _ hk (SR.newRow (C.fi.keeps dst) h0 hreps (by rw [range_mod]; exact replicate_one (storable_all hst) _) hpos (by simp [hzsz]) (by omega) (fun x => by have := h0.cnt x; simp only [List.count_nil]; omega) (fun x hx => by simp at hx)) fun e => ⟨rfl, rfl⟩)
      rw [hbz] at b3
      have hr := run_make (P := C.P) w t e i z hu hi hzz k1 k2 n n b0 (Int.le_refl _) b3 (by unfold maxLen at b2; omega)
      rw [← hsz, ← hzsz] at hr
      simp only [execOp, ho, hv1, hv2, Sem.run_bind, hr, Result.andThen_ok, Sem.run_pure, madeCells]
    · exact hk.elim
  · exact hk.elim

theorem bytesOf_rep {bl : List (List Nat)} : ∀ {cells : List AC} {vals : List Value} {bs : List UInt8} {L : List Nat}, Reps P w Pr bl cells vals L → bytesOf cells = some bs →
    ∃ ns : List Int, vals = ns.map (Value.int .u8) ∧ bs = ns.map fun n => UInt8.ofNat n.toNat := by
  intro cells
  induction cells with
  | nil => intro vals bs L h hb; cases h; simp only [bytesOf, Option.some.injEq] at hb; subst hb; exact ⟨[], rfl, rfl⟩
  | cons c cs ih =>
    intro vals bs L h hb
    cases h with
    | cons h1 h2 =>
      unfold bytesOf at hb
      split at hb
      · rename_i e; cases e
      · rename_i n r e
        cases e
        rw [Option.map_eq_some_iff] at hb
        obtain ⟨bs', hb', rfl⟩ := hb
        obtain ⟨ns, rfl, rfl⟩ := ih h2 hb'
        cases h1
        exact ⟨n :: ns, rfl, rfl⟩
      · cases hb

theorem foldl_push (ns : List Int) : ∀ r : ByteArray, (ns.foldl (fun r n => r.push (UInt8.ofNat n.toNat)) r).data.toList = r.data.toList ++ ns.map fun n => UInt8.ofNat n.toNat := by
  induction ns with
  | nil => intro r; simp
  | cons n ns ih =>
    intro r
    rw [List.foldl_cons, ih]
    obtain ⟨d⟩ := r
    simp [ByteArray.push]

theorem s_convert {src tgt : TypeId} {x : Operand} (ho : o.op = .convert src tgt x) (h : SR C st a w Pr b xs vs) (hg : gOk gd) (hD : wD_convert C.P C.fi m gd dst src tgt x st k) (hn : Goes C m st b a xs vs o.dst next k) :
    o.wp C.P a w next Q := by
  unfold wD_convert at hD
  obtain ⟨u, hk, hrep, hr1⟩ := un_share hD hg
  have hr := hr1 (h.ev x)
  clear hr1
  unfold wConv at hk
  split at hk
  · rename_i j2 j j3 n h1 h2
    have hu1 := tdOf_int h1
    have hu2 := tdOf_int h2
    simp only [share] at hr
    generalize hv : a.eval x = z at hr
    cases hr
    refine wp_quiet h hn hk .int ?_
    simp [execOp, ho, convert, run_underlying hu1, run_underlying hu2, hv, Conv.intToInt]
  · rename_i s h1 h2
    have hu1 := tdOf_str h1
    have hu2 := tdOf_str h2
    simp only [share] at hr
    refine wp_quiet h hn hk hr ?_
    generalize hv : a.eval x = z at hr
    cases hr
    simp [execOp, ho, convert, run_underlying hu1, run_underlying hu2, hv]
  · rename_i e ow n cells h1 h2
    split at hk
    · rename_i bs hb he
      obtain ⟨hl, hm, hk⟩ := hk
      have hu1 := tdOf_slice h1
      have hu2 := tdOf_str h2
      have hu3 := tdOf_int he
      obtain ⟨L, hf⟩ := h.full x
      have hr := hrep hf
      generalize hv : a.eval x = z at hr
      rcases rep_src hr with ⟨cap, rfl, rfl, rfl⟩ | ⟨p, cap, vals, L', rfl, g1, _, g2, g3⟩
      · simp only [bytesOf, Option.some.injEq] at hb
        subst hb
        refine wp_quiet (v := .string .empty) h hn hk (.str rfl (by simp [maxLen])) ?_
        simp [execOp, ho, convert, run_underlying hu1, run_underlying hu2, run_underlying hu3, hv, Conv.bytesToString]
      · obtain ⟨ns, rfl, rfl⟩ := bytesOf_rep g1 hb
        have hld := run_loadCells_list (P := C.P) w p _ (fun j v hj => g3 j v hj)
        have hnl : (ns.map (Value.int .u8)).length = n := by simpa using hl
        rw [hnl] at hld
        have hr := run_bytesToString (P := C.P) w p n cap ns hld
        refine wp_quiet h hn hk (.str ((foldl_push ns ByteArray.empty).trans (show [] ++ _ = _ from List.nil_append _)) hm) ?_
        simp only [execOp, ho, convert, Sem.run_bind, run_underlying hu1, run_underlying hu2, run_underlying hu3, Result.andThen_ok, hv, hr, Sem.run_pure]
    · exact hk.elim
  · exact hk.elim

theorem RepK.length {K : List (List (List AC))} {bl : List (List Nat)} {L : List Nat} (h : RepK P w Pr K bl L) : ∀ (u : Nat) (f : List (List AC)) (b' : List Nat), K[u]? = some f → bl[u]? = some b' → f.length = b'.length := by
  induction K generalizing bl L with
  | nil => intro u f b' hu; simp at hu
  | cons g K ih =>
    obtain ⟨b, bl', L1, L2, rfl, hF, hK, rfl⟩ := h
    intro u f b' hu hb
    cases u with
    | zero =>
      simp only [List.getElem?_cons_zero, Option.some.injEq] at hu hb
      subst hu; subst hb
      exact hF.length
    | succ u =>
      simp only [List.getElem?_cons_succ] at hu hb
      exact ih hK u f b' hu hb

theorem RepK.cons_inv {K : List (List (List AC))} {b : List Nat} {bl : List (List Nat)} {L : List Nat} (h : RepK P w Pr K (b :: bl) L) : ∃ f K0, K = f :: K0 := by
  cases K with
  | nil => have := h.1; cases this
  | cons f K0 => exact ⟨f, K0, rfl⟩

theorem wXs_sound (h : SR C st a w Pr b xs vs) (hg : gOk gd) : ∀ {l : List Operand} {k : List AC → Prop}, wXs gd st l k → ∃ us, k us ∧ Reps C.P w Pr (b :: C.bl0) us (l.map a.eval) [] := by
  intro l
  induction l with
  | nil => intro k hk; exact ⟨[], hk, .nil⟩
  | cons x l ih =>
    intro k hk
    obtain ⟨u, hk, hr⟩ := h.un hk hg
    obtain ⟨us, hk, hrs⟩ := ih hk
    exact ⟨_, hk, Reps.cons (L := []) (M := []) hr hrs⟩

/-- What is borrowed. -/
theorem borrow_sound {x : Operand} {kk : AC → (AC → Bool) → (AC → St) → Prop} {Le Ll Lx Lk : List Nat} (h : SRL C st a w Pr b xs vs Le Ll Lx Lk) (hb : wBorrow st x kk) :
    ∃ (v : AC) (ok : AC → Bool) (put : AC → St) (La Lr : List Nat), kk v ok put ∧ Rep C.P w Pr (b :: C.bl0) v (a.eval x) La ∧ (∀ y, La.count y + Lr.count y = Le.count y + Ll.count y) ∧ ∀ u, ok u = true → (put u).K = st.K ∧
      (((put u).env.map (·.1)).Nodup ∧ ∀ j ∈ (put u).env.map (·.1), C.fi.isVar j = true) ∧ (((put u).loc.map (·.1)).Nodup ∧ ∀ j ∈ (put u).loc.map (·.1), C.fi.isVar j = false) ∧
      ∀ (w' : World) (Pr' : Addr → Prop) (b' : List Nat) (L' : List Nat), (∀ c z M, Rep C.P w Pr (b :: C.bl0) c z M → (∀ g ∈ M, g ∈ Lr) → Rep C.P w' Pr' (b' :: C.bl0) c z M) →
        (∀ p, Pr p → Pr' p ∧ w'.cell? p = w.cell? p) → (∀ g ∈ Lr, Kept w Pr w' Pr' g) →
        Rep C.P w' Pr' (b' :: C.bl0) u (a.eval x) L' → ∃ Le' Ll', RepE C.P w' Pr' (b' :: C.bl0) a.tmps (put u).env Le' ∧ RepE C.P w' Pr' (b' :: C.bl0) a.tmps (put u).loc Ll' ∧ ∀ y, Le'.count y + Ll'.count y = Lr.count y + L'.count y := by
  unfold wBorrow at hb
  split at hb
  · rename_i s
    have hev : ∀ s' oo y nn, st.get s = .als s' oo y nn → a.eval (.tmp s) = y := by
      intro s' oo y nn e
      obtain ⟨L, hr, _⟩ := h.get s
      rw [e] at hr
      simp only [Act.eval]
      generalize a.tmps.getD s undef = z at hr
      cases hr <;> rfl
    split at hb
    · rename_i s' y nn hs
      have hx := hev _ _ _ _ hs
      split at hb
      · rename_i y' v hs'
        obtain ⟨rfl, hb⟩ := hb
        obtain ⟨xv, Lv, Lr, hxv, hrs, hLc, hset⟩ := h.slot hs' (by simp)
        have hval := hrs.nam_val
        have hrs := hrs.nam_inv
        refine ⟨v, _, _, Lv, Lr, hb, by rw [hx, hval]; exact hrs, hLc, fun u _ => ?_⟩
        obtain ⟨eK, kE, kL, hset⟩ := hset (.nam y' u)
        refine ⟨eK, kE, kL, fun w' Pr' b' L' hkp hp hkept hru => ?_⟩
        exact hset w' Pr' _ L' hkp (by rw [hx] at hru; rw [hval] at hru ⊢; exact .nam hru)
      · exact hb.elim
    · rename_i s' o y nn hs
      have hx := hev _ _ _ _ hs
      split at hb
      · rename_i y' e n cs hs'
        split at hb
        · rename_i z v hco
          obtain ⟨rfl, hb⟩ := hb
          obtain ⟨xv, Lv, Lr, hxv, hrs, hLc, hset⟩ := h.slot hs' (by simp)
          have hval := hrs.nam_val
          have hrs := hrs.nam_inv
          subst hval
          cases hrs with
          | slEx hcs h1 hh hcap hmax hpose hsz htk hpr =>
            rename_i vals g cap L0 cur
            obtain ⟨v0, Li, L1, hv0, hr0, hc0, hput⟩ := hcs.takeAt hco
            have hz := hr0.nam_val
            subst hz
            refine ⟨v, _, _, Li, (g :: L1) ++ Lr, hb, by rw [hx]; exact hr0.nam_inv.nilbl, fun y => by have := hc0 y; have := hLc y; simp only [List.count_append, List.count_cons] at *; omega, fun u hu => ?_⟩
            obtain ⟨eK, kE, kL, hset⟩ := hset (.nam (.slice (some ⟨g, 0, none⟩) n cap) (.sl (.ex e) n (cs.set o u)))
            refine ⟨eK, kE, kL, fun w' Pr' b' L' hkp hp hkept hru => ?_⟩
            have hru0 : Rep C.P w' Pr' [] u z L' := by rw [hx] at hru; exact hru.flat hu
            -- the other cells
            have hcs2 : ∃ L2, Reps C.P w' Pr' [] (cs.set o u) vals L2 ∧ ∀ y, L2.count y = L1.count y + L'.count y := by
              obtain ⟨Lh, hh1, hh2⟩ := hput .undef [] .undef
              have hh1' := hh1.kept hp (fun x hx => hkept x (List.mem_append_left _ (List.mem_cons_of_mem _ (List.count_pos_iff.1 (by have := hh2 x; have := List.count_pos_iff.2 hx; simp only [List.count_nil] at *; omega)))))
              obtain ⟨v9, Li9, L9, q1, q2, q3, q4⟩ := hh1'.takeAt (i := o) (c := .undef) (by rw [List.getElem?_set_self (List.getElem?_eq_some_iff.1 hco).1])
              have hv9 : v9 = z := by rw [hv0] at q1; cases q1; rfl
              subst hv9
              obtain ⟨L2, r1, r2⟩ := q4 u L' hru0
              rw [List.set_set] at r1
              refine ⟨L2, r1, fun y => ?_⟩
              have hz9 : Li9 = [] := by cases q2; rfl
              subst hz9
              have := r2 y; have := q3 y; have := hh2 y
              simp only [List.count_nil] at *; omega
            obtain ⟨L2, k1, k2⟩ := hcs2
            have hkg := hkept g (List.mem_append_left _ List.mem_cons_self)
            have hnew : Rep C.P w' Pr' (b' :: C.bl0) (.nam (.slice (some ⟨g, 0, none⟩) n cap) (.sl (.ex e) n (cs.set o u))) (.slice (some ⟨g, 0, none⟩) n cap) (g :: L2) :=
              .nam (.slEx k1 h1 (hkg.heap.trans hh) hcap hmax hpose hsz htk (fun q hq hqb => hpr q (hkg.pr q hq hqb) hqb))
            obtain ⟨Le', Ll', g1, g2, g3⟩ := hset w' Pr' _ _ (fun c z M hM hin => hkp c z M hM fun x hx => List.mem_append_right _ (hin x hx)) hnew
            exact ⟨Le', Ll', g1, g2, fun y => by have := g3 y; have := k2 y; simp only [List.count_append, List.count_cons] at *; omega⟩
          | slNil => simp at hco
        · exact hb.elim
      · rename_i y' cs hs'
        split at hb
        · rename_i z v hco
          obtain ⟨rfl, hb⟩ := hb
          obtain ⟨xv, Lv, Lr, hxv, hrs, hLc, hset⟩ := h.slot hs' (by simp)
          have hval := hrs.nam_val
          have hrs := hrs.nam_inv
          subst hval
          cases hrs with
          | agg hcs h1 =>
            rename_i vals
            obtain ⟨v0, Li, L1, hv0, hr0, hc0, hput⟩ := hcs.takeAt hco
            have hz := hr0.nam_val
            subst hz
            refine ⟨v, _, _, Li, L1 ++ Lr, hb, by rw [hx]; exact hr0.nam_inv, fun y => by have := hc0 y; have := hLc y; simp only [List.count_append] at *; omega, fun u hu => ?_⟩
            obtain ⟨eK, kE, kL, hset⟩ := hset (.nam (.agg vals.toArray) (.agg (cs.set o u)))
            refine ⟨eK, kE, kL, fun w' Pr' b' L' hkp hp hkept hru => ?_⟩
            have hru0 : Rep C.P w' Pr' (b' :: C.bl0) u z L' := by rw [hx] at hru; exact hru
            have hcs2 : ∃ L2, Reps C.P w' Pr' (b' :: C.bl0) (cs.set o u) vals L2 ∧ ∀ y, L2.count y = L1.count y + L'.count y := by
              obtain ⟨Lh, hh1, hh2⟩ := hput .undef [] .undef
              have hh1' : Reps C.P w' Pr' (b' :: C.bl0) (cs.set o .undef) vals Lh := by
                have := hkp (.agg (cs.set o .undef)) (.agg vals.toArray) Lh (.agg hh1 h1) (fun x hx => List.mem_append_left _ (List.count_pos_iff.1 (by have := hh2 x; have := List.count_pos_iff.2 hx; simp only [List.count_nil] at *; omega)))
                generalize hq : Value.agg vals.toArray = q at this
                cases this with
                | agg hx hx9 =>
                  rename_i vals2
                  have e9 : vals = vals2 := by simpa using hq
                  rw [e9]; exact hx
              obtain ⟨v9, Li9, L9, q1, q2, q3, q4⟩ := hh1'.takeAt (i := o) (c := .undef) (by rw [List.getElem?_set_self (List.getElem?_eq_some_iff.1 hco).1])
              have hv9 : v9 = z := by rw [hv0] at q1; cases q1; rfl
              subst hv9
              obtain ⟨L2, r1, r2⟩ := q4 u L' hru0
              rw [List.set_set] at r1
              refine ⟨L2, r1, fun y => ?_⟩
              have hz9 : Li9 = [] := by cases q2; rfl
              subst hz9
              have := r2 y; have := q3 y; have := hh2 y
              simp only [List.count_nil] at *; omega
            obtain ⟨L2, k1, k2⟩ := hcs2
            obtain ⟨Le', Ll', g1, g2, g3⟩ := hset w' Pr' _ _ (fun c z M hM hin => hkp c z M hM fun x hx => List.mem_append_right _ (hin x hx)) (.nam (.agg k1 h1))
            exact ⟨Le', Ll', g1, g2, fun y => by have := g3 y; have := k2 y; simp only [List.count_append] at *; omega⟩
        · exact hb.elim
      · exact hb.elim
    · rename_i y v hs
      obtain ⟨xv, Lv, Lr, hxv, hrs, hLc, hset⟩ := h.slot hs (by simp)
      have hval := hrs.nam_val
      have hrs := hrs.nam_inv
      have hx : a.eval (.tmp s) = y := by
        simp only [Act.eval]
        rw [hval]
        simp [Array.getD_eq_getD_getElem?, hxv]
      refine ⟨v, _, _, Lv, Lr, hb, by rw [hx, hval]; exact hrs, hLc, fun u _ => ?_⟩
      obtain ⟨eK, kE, kL, hset⟩ := hset (.nam y u)
      refine ⟨eK, kE, kL, fun w' Pr' b' L' hkp hp hkept hru => ?_⟩
      exact hset w' Pr' _ L' hkp (by rw [hx] at hru; rw [hval] at hru ⊢; exact .nam hru)
    · exact hb.elim
  · exact hb.elim

/-- A call by its contract. -/
theorem call_sound {f : FuncId} {us : List AC} {vals : List Value} {r : AC} {K' : List (List (List AC))} {La Le Ll Lx Lk : List Nat}
    (hct : Ct C.P f us st.K r K') (hus : Reps C.P w Pr (b :: C.bl0) us vals La) (h : SRL C st a w Pr b xs vs Le Ll Lx Lk)
    (hcnt : ∀ x, La.count x + Le.count x + Ll.count x + Lx.count x + Lk.count x + (b :: C.bl0).flatten.count x ≤ 1) (hnew : ∀ x, 0 < La.count x → x ∈ C.F ∨ C.w0.heap.size ≤ x)
    (hn : ∀ v w' Pr' b', SR C { st with K := K' } a w' Pr' b' (r :: xs) (v :: vs) → (K' = st.K → b' = b) → next (a.put o.dst v) w')
    (hrun : (execOp a.eval o).run C.P w = .ok (.enter f vals.toArray) w) : o.wp C.P a w next Q := by
  unfold Oper.wp
  rw [hrun]
  show Calls C.P f vals.toArray w _
  have hall : ∀ x, (La ++ Lk ++ (b :: C.bl0).flatten).count x ≤ 1 := fun x => by
    have := hcnt x; simp only [List.count_append]; omega
  refine (hct.2 w Pr (b :: C.bl0) vals La Lk hus h.K hall h.prlt (C.tab.kept h.since.prot)).mono ?_
  rintro e w' ⟨v, Pr', Lr, Lk', bl', rfl, hext, hr, hK', hc', hn', hprlt, hs⟩
  have hF : ∀ x, x ∈ La ++ Lk ++ (b :: C.bl0).flatten → x ∈ C.F ∨ C.w0.heap.size ≤ x := by
    intro x hx
    have := List.count_pos_iff.2 hx
    simp only [List.count_append] at this
    by_cases h0 : 0 < La.count x
    · exact hnew x h0
    · exact h.new x (by omega)
  have hlt : ∀ x, x ∈ La ++ Lk ++ (b :: C.bl0).flatten → x < w.heap.size := by
    intro x hx
    rcases List.mem_append.1 hx with hx | hx
    · rcases List.mem_append.1 hx with hx | hx
      · exact hus.own_lt x hx
      · exact h.K.own_lt x hx
    · exact h.K.box_lt x hx
  have hk : ∀ x, 0 < Le.count x + Ll.count x + Lx.count x → x < w.heap.size → Kept w Pr w' Pr' x := by
    intro x hx hxl
    have hnm : x ∉ La ++ Lk ++ (b :: C.bl0).flatten := by
      intro hm
      have := List.count_pos_iff.2 hm
      have := hcnt x
      simp only [List.count_append] at *
      omega
    exact ⟨hs.block x hxl hnm, fun p hp e => by
      rcases hs.newPr p hp with h1 | h1 | h1
      · exact h1
      · rw [e] at h1; exact absurd h1 hnm
      · rw [e] at h1; omega⟩
  have hs0 := h.since
  have hb' : ∃ b', bl' = b' :: C.bl0 ∧ (∃ gs, b' = b ++ gs ∧ ∀ g ∈ gs, w.heap.size ≤ g) := by
    rcases hext with rfl | ⟨b1, r1, gs, e1, e2, e3⟩
    · exact ⟨b, rfl, [], by simp, by simp⟩
    · cases e1; exact ⟨b ++ gs, e2, gs, rfl, e3⟩
  obtain ⟨b', rfl, gs, rfl, hgs⟩ := hb'
  refine hn v w' Pr' (b ++ gs) ⟨Le, Ll, Lr ++ Lx, Lk', ⟨?_, ?_, ?_, hK', fun x => ?_, fun x hx => ?_, h.kE, h.kL, hprlt, ⟨hs.os.trans hs0.os, hs.tape.trans hs0.tape, hs.output.trans hs0.output, Nat.le_trans hs0.size hs.size, fun x hx hxF => ?_, fun p hp => ?_, fun p hp => ?_⟩, h.defers, h.size⟩⟩ ?_
  · exact (h.env.kept hs.prot (fun x hx => hk x (by have := List.count_pos_iff.2 hx; omega) (h.env.own_lt x hx))).ext
  · exact (h.loc.kept hs.prot (fun x hx => hk x (by have := List.count_pos_iff.2 hx; omega) (h.loc.own_lt x hx))).ext
  · exact Reps.cons hr ((h.reg.kept hs.prot (fun x hx => hk x (by have := List.count_pos_iff.2 hx; omega) (h.reg.own_lt x hx))).ext)
  · -- counts
    have c1 := hc' x
    have c2 := hcnt x
    simp only [List.count_append] at c1 ⊢
    by_cases hold : 0 < Le.count x + Ll.count x + Lx.count x
    · have hxl : x < w.heap.size := by
        by_cases q1 : 0 < Le.count x
        · exact h.env.own_lt x (List.count_pos_iff.1 q1)
        · by_cases q2 : 0 < Ll.count x
          · exact h.loc.own_lt x (List.count_pos_iff.1 q2)
          · exact h.reg.own_lt x (List.count_pos_iff.1 (by omega))
      have z1 : (Lr ++ Lk').count x = 0 := by
        refine List.count_eq_zero.2 fun hm => ?_
        rcases hn' x hm with hm | hm
        · have := List.count_pos_iff.2 hm; simp only [List.count_append] at this; omega
        · omega
      have z2 : gs.count x = 0 := List.count_eq_zero.2 fun hm => by have := hgs x hm; omega
      simp only [List.count_append, List.flatten_cons] at *
      omega
    · omega
  · simp only [List.count_append, List.flatten_cons] at hx
    by_cases hold : 0 < Le.count x + Ll.count x + Lx.count x + (b ++ C.bl0.flatten).count x
    · refine h.new x ?_
      simp only [List.count_append, List.flatten_cons] at *
      omega
    · by_cases hg : 0 < gs.count x
      · have := hgs x (List.count_pos_iff.1 hg)
        right; have := hs0.size; omega
      · have hm : x ∈ Lr ++ Lk' := List.count_pos_iff.1 (by simp only [List.count_append] at *; omega)
        rcases hn' x hm with hm | hm
        · exact hF x (List.mem_append_left _ hm)
        · right; have := hs0.size; omega
  · exact (hs.block x (by have := hs0.size; omega) (fun hm => by rcases hF x hm with h1 | h1; exact hxF h1; omega)).trans (hs0.block x hx hxF)
  · have h1 := hs0.prot p hp
    have h2 := hs.prot p h1.1
    exact ⟨h2.1, h2.2.trans h1.2⟩
  · rcases hs.newPr p hp with h1 | h1 | h1
    · exact hs0.newPr p h1
    · exact .inr (hF _ h1)
    · right; right; have := hs0.size; omega
  · intro e
    rw [e] at hK'
    obtain ⟨f0, K0, hf⟩ := h.K.cons_inv
    have l1 := h.K.length 0 f0 b (by rw [hf]; rfl) rfl
    have l2 := hK'.length 0 f0 (b ++ gs) (by rw [hf]; rfl) rfl
    have : gs = [] := List.eq_nil_of_length_eq_zero (by simp at l2; omega)
    rw [this, List.append_nil]

theorem callB_sound {c : Call} {fo : Operand} {f : FuncId} (ho : o.op = .call c) (hcal : c.callee = .value fo) (hv : a.eval fo = .func (.func f) #[] #[]) (h : SR C st a w Pr b xs vs) (hg : gOk gd) (hm : m = true)
    (hk : callB C.P gd f c.args.toList k st) (hn : Goes C m st b a xs vs o.dst next k) : o.wp C.P a w next Q := by
  unfold callB at hk
  split at hk
  · rename_i x xs' hargs
    have hS := h
    obtain ⟨Le, Ll, Lx, Lk, h⟩ := h
    obtain ⟨v, ok, put, La, Lr, hk, hrv, hLc, hput⟩ := borrow_sound h hk
    obtain ⟨us, hk, hrs⟩ := wXs_sound hS hg hk
    obtain ⟨r, K', back, hct, hok, hk⟩ := hk
    obtain ⟨eK, kE, kL, hput⟩ := hput back hok
    have hus : Reps C.P w Pr (b :: C.bl0) (v :: us) (a.eval x :: xs'.map a.eval) La := by simpa using Reps.cons hrv hrs
    have hrun : (execOp a.eval o).run C.P w = .ok (.enter f (a.eval x :: xs'.map a.eval).toArray) w := by
      obtain ⟨⟨fn, h1, h2, h3⟩, _⟩ := hct
      have h2' : fn.body.isNone = false := by cases hb : fn.body <;> simp [hb] at h2 ⊢
      have e1 : c.args.map a.eval = (a.eval x :: xs'.map a.eval).toArray := by
        apply Array.ext'; simp [hargs]
      simp only [execOp, ho, Sem.run_bind, resolve, hcal, Deferred.ofValue, hv, Sem.run_pure, Result.andThen_ok, invoke, callFunc, run_program, h1, h3, h2', Bool.false_eq_true, if_false, e1, Array.empty_append, Array.append_empty]
    unfold Oper.wp
    rw [hrun]
    show Calls C.P f (a.eval x :: xs'.map a.eval).toArray w _
    have hcnt : ∀ x, La.count x + Lr.count x + Lx.count x + Lk.count x + (b :: C.bl0).flatten.count x ≤ 1 := fun x => by have := h.cnt x; have := hLc x; omega
    have hnew : ∀ x, 0 < La.count x + Lr.count x + Lx.count x + Lk.count x + (b :: C.bl0).flatten.count x → x ∈ C.F ∨ C.w0.heap.size ≤ x := fun x hx => h.new x (by have := hLc x; omega)
    have hLalt : ∀ x ∈ La, x < w.heap.size := fun x hx => hrv.own_lt x hx
    have hLrlt : ∀ x ∈ Lr, x < w.heap.size := fun x hx => by
      have := List.count_pos_iff.2 hx
      have := hLc x
      by_cases q1 : 0 < Le.count x
      · exact h.env.own_lt x (List.count_pos_iff.1 q1)
      · exact h.loc.own_lt x (List.count_pos_iff.1 (by omega))
    have hall : ∀ x, (La ++ Lk ++ (b :: C.bl0).flatten).count x ≤ 1 := fun x => by
      have := hcnt x; simp only [List.count_append]; omega
    refine (hct.2 w Pr (b :: C.bl0) _ _ La Lk hus h.K hall h.prlt (C.tab.kept h.since.prot)).mono ?_
    rintro e w' ⟨v', Pr', Lr', Lb, Lk', bl', rfl, hext, hr, hback, hK', hc', hn', hprlt, hs⟩
    have hF : ∀ x, x ∈ La ++ Lk ++ (b :: C.bl0).flatten → x ∈ C.F ∨ C.w0.heap.size ≤ x := by
      intro x hx
      have := List.count_pos_iff.2 hx
      simp only [List.count_append] at this
      exact hnew x (by omega)
    have hkk : ∀ x, 0 < Lr.count x + Lx.count x → x < w.heap.size → Kept w Pr w' Pr' x := by
      intro x hx hxl
      have hnm : x ∉ La ++ Lk ++ (b :: C.bl0).flatten := by
        intro hm
        have := List.count_pos_iff.2 hm
        have := hcnt x
        simp only [List.count_append] at *
        omega
      exact ⟨hs.block x hxl hnm, fun p hp e => by
        rcases hs.newPr p hp with h1 | h1 | h1
        · exact h1
        · rw [e] at h1; exact absurd h1 hnm
        · rw [e] at h1; omega⟩
    have hs0 := h.since
    have hb' : ∃ b', bl' = b' :: C.bl0 ∧ (∃ gs, b' = b ++ gs ∧ ∀ g ∈ gs, w.heap.size ≤ g) := by
      rcases hext with rfl | ⟨b1, r1, gs, e1, e2, e3⟩
      · exact ⟨b, rfl, [], by simp, by simp⟩
      · cases e1; exact ⟨b ++ gs, e2, gs, rfl, e3⟩
    obtain ⟨b', rfl, gs, rfl, hgs⟩ := hb'
    obtain ⟨Le', Ll', g1, g2, g3⟩ := hput w' Pr' (b ++ gs) Lb (fun c z M hM hin => (hM.kept hs.prot fun x hx => hkk x (by have := List.count_pos_iff.2 (hin x hx); omega) (hLrlt x (hin x hx))).ext)
      hs.prot (fun x hx => hkk x (by have := List.count_pos_iff.2 hx; omega) (hLrlt x hx)) hback
    show next (a.put o.dst v') w'
    refine hn r { put back with K := K' } v' w' Pr' (b ++ gs) hk ⟨Le', Ll', Lr' ++ Lx, Lk', ⟨g1, g2, ?_, hK', fun x => ?_, fun x hx => ?_, kE, kL, hprlt, ⟨hs.os.trans hs0.os, hs.tape.trans hs0.tape, hs.output.trans hs0.output, Nat.le_trans hs0.size hs.size, fun x hx hxF => ?_, fun p hp => ?_, fun p hp => ?_⟩, h.defers, h.size⟩⟩ (fun e => by rw [hm] at e; cases e)
    · exact Reps.cons hr ((h.reg.kept hs.prot (fun x hx => hkk x (by have := List.count_pos_iff.2 hx; omega) (h.reg.own_lt x hx))).ext)
    · have c1 := hc' x
      have c2 := hcnt x
      have c3 := g3 x
      simp only [List.count_append] at c1 ⊢
      by_cases hold : 0 < Lr.count x + Lx.count x
      · have hxl : x < w.heap.size := by
          by_cases q1 : 0 < Lr.count x
          · exact hLrlt x (List.count_pos_iff.1 q1)
          · exact h.reg.own_lt x (List.count_pos_iff.1 (by omega))
        have z1 : (Lr' ++ Lb ++ Lk').count x = 0 := by
          refine List.count_eq_zero.2 fun hm => ?_
          rcases hn' x hm with hm | hm
          · have := List.count_pos_iff.2 hm; simp only [List.count_append] at this; omega
          · omega
        have z2 : gs.count x = 0 := List.count_eq_zero.2 fun hm => by have := hgs x hm; omega
        simp only [List.count_append, List.flatten_cons] at *
        omega
      · omega
    · have c3 := g3 x
      simp only [List.count_append, List.flatten_cons] at hx
      by_cases hold : 0 < Lr.count x + Lx.count x + (b ++ C.bl0.flatten).count x
      · refine hnew x ?_
        simp only [List.count_append, List.flatten_cons] at *
        omega
      · by_cases hg' : 0 < gs.count x
        · have := hgs x (List.count_pos_iff.1 hg')
          right; have := hs0.size; omega
        · have hm : x ∈ Lr' ++ Lb ++ Lk' := List.count_pos_iff.1 (by simp only [List.count_append] at *; omega)
          rcases hn' x hm with hm | hm
          · exact hF x (List.mem_append_left _ hm)
          · right; have := hs0.size; omega
    · exact (hs.block x (by have := hs0.size; omega) (fun hm => by rcases hF x hm with h1 | h1; exact hxF h1; omega)).trans (hs0.block x hx hxF)
    · have h1 := hs0.prot p hp
      have h2 := hs.prot p h1.1
      exact ⟨h2.1, h2.2.trans h1.2⟩
    · rcases hs.newPr p hp with h1 | h1 | h1
      · exact hs0.newPr p h1
      · exact .inr (hF _ h1)
      · right; right; have := hs0.size; omega
  · exact hk.elim

theorem s_call {c : Call} (ho : o.op = .call c) (h : SR C st a w Pr b xs vs) (hg : gOk gd) (hD : wD_call C.P C.fi m gd o.dst c st k) (hn : Goes C m st b a xs vs o.dst next k) : o.wp C.P a w next Q := by
  unfold wD_call wCall at hD
  split at hD
  · rename_i fo hcal
    obtain ⟨u, hk, hr⟩ := h.un hD hg
    split at hk
    · rename_i f caps
      split at hk
      · rename_i hbw
        obtain ⟨rfl, hk⟩ := hk
        simp only [share] at hr
        generalize hv : a.eval fo = z at hr
        have hz : z = .func (.func f) #[] #[] := by
          cases hr with
          | fn h0 h1 => cases h1; rfl
        subst hz
        exact callB_sound ho hcal hv h hg (by simp at hbw; exact hbw.1) hk hn
      obtain ⟨us, st', hk, hS, hK, hm⟩ := h.wTs hk hg
      simp only [share] at hr
      generalize hv : a.eval fo = z at hr
      have hz : ∃ cv, z = .func (.func f) #[] cv.toArray ∧ Reps C.P w Pr (b :: C.bl0) caps cv [] := by
        cases hr with
        | fn h0 h1 => exact ⟨_, rfl, h1⟩
      obtain ⟨cv, rfl, hcv⟩ := hz
      have hul : us.length = (c.args.toList.map a.eval).length := by
        obtain ⟨Le, Ll, Lx, Lk, h0⟩ := hS
        have := h0.reg.length
        have h1 := h
        obtain ⟨_, _, _, _, h1⟩ := h1
        have h2 := h1.reg.length
        simp only [List.length_append, List.length_reverse] at this
        omega
      obtain ⟨Lu, Le, Ll, Lx, Lk, hu1, h0, hc, hn1⟩ := hS.out hul
      have hargs := hu1.append hcv
      rw [List.append_nil] at hargs
      have hrun : ∀ K r K', Ct C.P f (us ++ caps) K r K' → (execOp a.eval o).run C.P w = .ok (.enter f ((c.args.toList.map a.eval) ++ cv).toArray) w := by
        rintro K r K' ⟨⟨fn, h1, h2, h3⟩, _⟩
        have h2' : fn.body.isNone = false := by cases hb : fn.body <;> simp [hb] at h2 ⊢
        have e1 : c.args.map a.eval ++ cv.toArray = ((c.args.toList.map a.eval) ++ cv).toArray := by
          apply Array.ext'; simp
        have e0 : (#[] : Array Value) ++ Array.map a.eval c.args ++ cv.toArray = ((c.args.toList.map a.eval) ++ cv).toArray := by rw [Array.empty_append]; exact e1
        simp only [execOp, ho, Sem.run_bind, resolve, hcal, Deferred.ofValue, hv, Sem.run_pure, Result.andThen_ok, invoke, callFunc, run_program, h1, h3, h2', Bool.false_eq_true, if_false, e0]
      unfold callK at hk
      cases m with
      | true =>
        simp only [if_true] at hk
        obtain ⟨r, K', hct, hk⟩ := hk
        exact call_sound hct hargs h0 hc hn1 (fun v w' Pr' b' hS' _ => hn _ _ _ _ _ _ hk hS' fun e => by cases e) (hrun _ _ _ hct)
      | false =>
        simp only [Bool.false_eq_true, if_false] at hk
        obtain ⟨r, hct, hk⟩ := hk
        have hct := hct hg
        exact call_sound hct hargs h0 hc hn1 (fun v w' Pr' b' hS' hb => hn _ _ _ _ _ _ hk hS' fun _ => ⟨hm rfl, hb rfl⟩) (hrun _ _ _ hct)
    · exact hk.elim
  · rename_i bi hcal
    unfold wBuiltin at hD
    obtain ⟨callee, args, ts⟩ := c
    simp only at hcal hD
    subst hcal
    split at hD
    · rename_i x t ts' hargs hts
      obtain rfl : args = #[x] := by rw [← Array.toList_inj]; exact hargs
      exact s_len ho (by rw [← Array.getElem?_toList, hts]; rfl) h hg hD hn
    · rename_i s x t t' hargs hts
      obtain rfl : args = #[.tmp s, x] := by rw [← Array.toList_inj]; exact hargs
      obtain rfl : ts = #[t, t'] := by rw [← Array.toList_inj]; exact hts
      obtain ⟨hm, hD⟩ := hD
      split at hD
      · rename_i htd; exact s_appendS ho h hg htd hm hD hn
      · obtain ⟨rfl, hD⟩ := hD
        exact s_append ho h hg hm hD hn
    · rename_i tl x y hargs
      obtain rfl : args = #[x, y] := by rw [← Array.toList_inj]; exact hargs
      obtain ⟨u1, hk, r1⟩ := h.un hD hg
      obtain ⟨u2, hk, r2⟩ := h.un hk hg
      split at hk
      · obtain ⟨rfl, hk⟩ := hk
        simp only [share] at r1 r2
        generalize hv1 : a.eval x = z1 at r1
        generalize hv2 : a.eval y = z2 at r2
        cases r1
        cases r2
        refine wp_quiet h hn hk .int ?_
        simp [execOp, ho, resolve, invoke, builtin, Builtin.min_, Builtin.min2, hv1, hv2]
      · exact hk.elim
    · rename_i tl x y hargs
      obtain rfl : args = #[x, y] := by rw [← Array.toList_inj]; exact hargs
      obtain ⟨u1, hk, r1⟩ := h.un hD hg
      obtain ⟨u2, hk, r2⟩ := h.un hk hg
      split at hk
      · obtain ⟨rfl, hk⟩ := hk
        simp only [share] at r1 r2
        generalize hv1 : a.eval x = z1 at r1
        generalize hv2 : a.eval y = z2 at r2
        cases r1
        cases r2
        refine wp_quiet h hn hk .int ?_
        simp [execOp, ho, resolve, invoke, builtin, Builtin.max_, Builtin.max2, hv1, hv2]
      · exact hk.elim
    · exact hD.elim
  · exact hD.elim

/-- Any operation. -/
theorem wDo_sound (h : SR C st a w Pr b xs vs) (hg : gOk gd) (hD : wDo C.P C.fi m gd o.dst o.op st k) (hn : Goes C m st b a xs vs o.dst next k) : o.wp C.P a w next Q := by
  unfold wDo at hD
  split at hD
  case h_1 ho => exact s_move ho h hg hD hn
  case h_2 ho => exact s_assign ho h hg hD hn
  case h_3 ho => exact s_pick ho h hg hD hn
  case h_4 ho => exact s_alloc ho h hg hD hn
  case h_5 ho => exact s_box ho h hg hD hn
  case h_6 ho => exact s_build ho h hg hD hn
  case h_7 ho => exact s_buildSlice ho h hg hD hn
  case h_8 ho => exact s_load ho h hg hD hn
  case h_9 ho => exact s_store ho h hg hD hn
  case h_10 ho => exact s_nilCheck ho h hg hD hn
  case h_11 ho => exact s_binOp ho h hg hD hn
  case h_12 ho => exact s_unOp ho h hg hD hn
  case h_13 ho => exact s_convert ho h hg hD hn
  case h_14 ho => exact s_makeFunc ho h hg hD hn
  case h_15 ho => exact s_makeSlice ho h hg hD hn
  case h_16 ho => exact s_slice ho h hg hD hn
  case h_17 ho => exact s_fieldAddr ho h hg hD hn
  case h_18 ho => exact s_field ho h hg hD hn
  case h_19 ho => exact s_indexAddr ho h hg hD hn
  case h_20 ho => exact s_index ho h hg hD hn
  case h_21 ho => exact s_extract ho h hg hD hn
  case h_22 ho => exact s_call ho h hg hD hn
  case h_23 => exact hD.elim
end
end Go.Proofs.YtkefgpmnimpcdaaGreatDoor.Abs
/- Regions and code: the weakest precondition is sound. No condition. -/
set_option linter.unusedVariables false
set_option linter.unusedSimpArgs false
namespace Go.Proofs.YtkefgpmnimpcdaaGreatDoor.Abs
open Go
section
variable {P : Program} {fi : FI} {st : St} {dst : Option Nat} {kk : AC → St → Prop} {gd : Option Bool}

theorem un_any {v : AC} {k : AC → Prop} (h : un gd v k) : ∃ u, k u := by
  unfold un at h; split at h
  · exact ⟨_, h.2⟩
  · exact ⟨_, h⟩
  · exact ⟨_, h⟩

theorem wT_any {x : Operand} {k : AC → St → Prop} (h : wT fi false gd st x k) : ∃ u, k u st := by
  unfold wT at h; split at h
  · obtain ⟨u, h⟩ := un_any h
    simp only [Bool.false_and, Bool.false_eq_true, if_false] at h
    exact ⟨_, h⟩
  · exact ⟨_, h⟩

theorem wTs_any {l : List Operand} : ∀ {k : List AC → St → Prop}, wTs fi false gd l st k → ∃ us, k us st := by
  induction l with
  | nil => intro k h; exact ⟨_, h⟩
  | cons x l ih =>
    intro k h
    have h : wT fi false gd st x (fun v st => wTs fi false gd l st fun vs st => k (v :: vs) st) := h
    obtain ⟨u, h⟩ := wT_any h
    obtain ⟨us, h⟩ := ih h
    exact ⟨_, h⟩

theorem intBin_any {op : BinOp} {j j' : IntKind} {x y : Int} {k : AC → Prop} (h : intBin gd op j j' x y k) : ∃ u, k u := by
  unfold intBin at h
  cases op <;> simp only at h <;> first
    | exact ⟨_, h.2.2⟩
    | exact ⟨_, h.2⟩

theorem strBin_any {op : BinOp} {x y : List UInt8} {k : AC → Prop} (h : strBin gd op x y k) : ∃ u, k u := by
  unfold strBin at h
  cases op <;> simp only at h <;> first
    | exact h.elim
    | exact ⟨_, h.2⟩
    | exact ⟨_, h⟩

theorem optInt_any {d : Int} {x : Option Operand} {k : Int → Prop} (h : optInt gd st d x k) : ∃ n, k n := by
  cases x with
  | none => exact ⟨_, h⟩
  | some x =>
    obtain ⟨u, h⟩ := un_any h
    split at h
    · exact ⟨_, h⟩
    · exact h.elim

/-- Where a guarded operation is left out: what follows holds all the same. -/
theorem wDo_any {op : Go.Op} (hg : ¬ gOk gd) (h : wDo P fi false gd dst op st kk) : ∃ av, kk av st := by
  unfold wDo at h
  split at h
  case h_1 x =>
    unfold wD_move at h; split at h
    · simp only [Bool.false_and, Bool.false_eq_true, if_false] at h
      split at h
      · split at h
        · exact ⟨_, h⟩
        · exact ⟨_, h⟩
      · obtain ⟨u, h⟩ := un_any h
        exact ⟨_, h⟩
    · exact ⟨_, h⟩
  case h_2 => exact wT_any h
  case h_3 =>
    obtain ⟨u, h⟩ := un_any h
    split at h
    · obtain ⟨u, h⟩ := un_any h
      obtain ⟨u, h⟩ := un_any h
      exact ⟨_, h⟩
    · exact ⟨_, h.2⟩
    · exact h.elim
  case h_4 => exact absurd h.1 (by simp)
  case h_5 => exact absurd h.1 (by simp)
  case h_6 =>
    obtain ⟨us, h⟩ := wTs_any h
    split at h
    · obtain ⟨_, _, h⟩ := h
      split at h
      · exact ⟨_, h⟩
      · exact h.elim
    · exact h.elim
  case h_7 =>
    obtain ⟨us, h⟩ := wTs_any h
    split at h
    · obtain ⟨_, _, h⟩ := h
      split at h
      · obtain ⟨_, _, h⟩ := h
        split at h
        · exact ⟨_, h.2⟩
        · exact h.elim
      · exact h.elim
    · exact h.elim
  case h_8 =>
    obtain ⟨_, _, h⟩ := h
    obtain ⟨u, h⟩ := un_any h
    split at h
    · split at h
      · obtain ⟨_, h⟩ := h
        simp only [Bool.false_and, Bool.false_eq_true, if_false] at h
        exact ⟨_, h⟩
      · exact h.elim
    · exact ⟨_, h.2⟩
    · obtain ⟨_, h⟩ := h
      split at h
      · obtain ⟨_, _, h⟩ := h
        split at h
        · exact absurd h.1 (by simp)
        · exact ⟨_, h⟩
      · exact h.elim
    · exact h.elim
  case h_9 => exact absurd h.1 (by simp)
  case h_10 =>
    obtain ⟨u, h⟩ := un_any h
    split at h
    · exact ⟨_, h⟩
    · exact ⟨_, h⟩
    · exact ⟨_, h⟩
    · exact h.elim
  case h_11 =>
    unfold wD_binOp at h
    split at h
    · obtain ⟨u, h⟩ := un_any h
      unfold nilCmp at h
      split at h
      · exact ⟨_, h.2 false (fun h => by cases h)⟩
      · exact ⟨_, h.2 true (fun h => by cases h)⟩
      · exact h.elim
    obtain ⟨u, h⟩ := un_any h
    obtain ⟨u, h⟩ := un_any h
    unfold wBin at h
    split at h
    · exact intBin_any h
    · exact strBin_any h
    · split at h
      · exact ⟨_, h⟩
      · exact ⟨_, h⟩
      · exact h.elim
    · exact ⟨_, h.2⟩
    · exact ⟨_, h.2⟩
    · exact h.elim
  case h_12 =>
    obtain ⟨u, h⟩ := un_any h
    split at h
    · exact ⟨_, h⟩
    · exact ⟨_, h⟩
    · exact h.elim
  case h_13 =>
    obtain ⟨u, h⟩ := un_any h
    unfold wConv at h
    split at h
    · exact ⟨_, h⟩
    · exact ⟨_, h⟩
    · split at h
      · exact ⟨_, h.2.2⟩
      · exact h.elim
    · exact h.elim
  case h_14 => exact ⟨_, h.2.2⟩
  case h_15 =>
    obtain ⟨u, h⟩ := un_any h
    obtain ⟨u, h⟩ := un_any h
    split at h
    · obtain ⟨_, _, h⟩ := h
      split at h
      · exact ⟨_, h.2.2.2⟩
      · exact h.elim
    · exact h.elim
  case h_16 =>
    obtain ⟨_, h⟩ := h
    obtain ⟨u, h⟩ := un_any h
    split at h
    · obtain ⟨n, h⟩ := optInt_any h
      obtain ⟨n, h⟩ := optInt_any h
      exact ⟨_, h.2⟩
    · obtain ⟨n, h⟩ := optInt_any h
      obtain ⟨n, h⟩ := optInt_any h
      exact ⟨_, h.2.2⟩
    · exact absurd h.2.1 (by simp)
    · exact h.elim
  case h_17 =>
    unfold wD_fieldAddr at h
    split at h
    · split at h
      · obtain ⟨_, h⟩ := h
        obtain ⟨u, h⟩ := un_any h
        split at h
        · exact ⟨_, h⟩
        · exact ⟨_, h.2⟩
        · exact ⟨_, h⟩
        · exact h.elim
      · exact h.elim
    · exact h.elim
  case h_18 =>
    unfold wD_field at h
    split at h
    · split at h
      · obtain ⟨_, _, _, h⟩ := h
        obtain ⟨u, h⟩ := un_any h
        split at h
        · exact ⟨_, h.2⟩
        · exact absurd h.2.1 (by simp)
        · exact h.elim
      · exact h.elim
    · exact h.elim
  case h_19 =>
    obtain ⟨u, h⟩ := un_any h
    obtain ⟨u, h⟩ := un_any h
    split at h
    · exact ⟨_, h.2.2.2.2⟩
    · exact ⟨_, h.2.2⟩
    · exact ⟨_, h.2.2⟩
    · exact h.elim
  case h_20 =>
    obtain ⟨u, h⟩ := un_any h
    obtain ⟨u, h⟩ := un_any h
    split at h
    · exact ⟨_, h.2⟩
    · exact h.elim
  case h_21 =>
    obtain ⟨u, h⟩ := un_any h
    split at h
    · split at h
      · simp only [Bool.false_and, Bool.false_eq_true, if_false] at h
        exact ⟨_, h⟩
      · exact h.elim
    · exact h.elim
  case h_22 =>
    unfold wD_call wCall at h
    split at h
    · obtain ⟨u, h⟩ := un_any h
      split at h
      · simp only [Bool.false_and, Bool.false_eq_true, if_false] at h
        obtain ⟨us, h⟩ := wTs_any h
        unfold callK at h
        simp only [Bool.false_eq_true, if_false] at h
        obtain ⟨r, _, h⟩ := h
        exact ⟨_, h⟩
      · exact h.elim
    · unfold wBuiltin at h
      split at h
      · obtain ⟨u, h⟩ := un_any h
        unfold wLen at h
        split at h
        · exact ⟨_, h fun e => absurd e hg⟩
        · exact ⟨_, h fun e => absurd e hg⟩
        · exact ⟨_, h fun e => absurd e hg⟩
        · exact ⟨_, h⟩
        · exact ⟨_, h.2⟩
        · exact h.elim
      · exact absurd h.1 (by simp)
      · obtain ⟨u, h⟩ := un_any h
        obtain ⟨u, h⟩ := un_any h
        split at h
        · exact ⟨_, h.2⟩
        · exact h.elim
      · obtain ⟨u, h⟩ := un_any h
        obtain ⟨u, h⟩ := un_any h
        split at h
        · exact ⟨_, h.2⟩
        · exact h.elim
      · exact h.elim
    · exact h.elim
  case h_23 => exact h.elim
end
end Go.Proofs.YtkefgpmnimpcdaaGreatDoor.Abs
/- Regions in the text's order, code, loops: the weakest precondition is sound. No condition. -/
set_option linter.unusedVariables false
set_option linter.unusedSimpArgs false
namespace Go.Proofs.YtkefgpmnimpcdaaGreatDoor.Abs
open Go

def opDst (n : Nat) (o : Oper) : Bool :=
  match o.dst with
  | some d => decide (d < n)
  | none => true

/-- Every slot that the code writes is one of the n. -/
def dstOk (n : Nat) : Code → Bool
  | .region _ ops _ => ops.toList.all (opDst n)
  | .seq a b => dstOk n a && dstOk n b
  | .cond _ a b => dstOk n a && dstOk n b
  | .block _ c => dstOk n c
  | .loop c => dstOk n c
  | _ => true

/-- Of the regions that draw their order. -/
def Draws (P : Program) (fi : FI) : Prop :=
  ∀ (C : Cx), C.P = P → C.fi = fi → ∀ (ops : Array Oper) (st : St) (a : Act) (w : World) (Pr : Addr → Prop) (b : List Nat) (k : St → Prop) (Q : Exit → Act → World → Prop) (id : Nat), True

section
variable {C : Cx} {st : St} {a : Act} {w : World} {Pr : Addr → Prop} {b : List Nat} {xs : List AC} {vs : List Value} {m : Bool}

theorem getD_bool {tmps : Array Value} {d : Nat} {x : Bool} (h : tmps.getD d undef = .bool x) : tmps[d]? = some (.bool x) := by
  rw [Array.getD_eq_getD_getElem?] at h
  cases ht : tmps[d]? with
  | none => rw [ht] at h; simp [undef] at h
  | some y => rw [ht] at h; simp at h; rw [h]

theorem gVal_wanted {ops : Array Oper} {g : Nat} {want c : Bool} (h : SR C st a w Pr b xs vs) (hv : gVal st ops.toList g want = some c) : (yielded ops a.tmps g == some want) = c := by
  unfold gVal at hv
  cases hd : (ops.toList[g]?).bind (·.dst) with
  | none => simp only [hd] at hv; cases hv
  | some d =>
    have hd' : (ops[g]?).bind (·.dst) = some d := by rw [← Array.getElem?_toList]; exact hd
    simp only [hd] at hv
    obtain ⟨Le, Ll, Lx, Lk, h0⟩ := h
    obtain ⟨L, hr, _⟩ := h0.get d
    split at hv
    · rename_i x hx
      rw [hx] at hr
      generalize hz : a.tmps.getD d undef = z at hr
      cases hr
      have := getD_bool hz
      simp only [Option.some.injEq] at hv
      subst hv
      simp [yielded, hd', this]
    · rename_i g' x hx
      rw [hx] at hr
      generalize hz : a.tmps.getD d undef = z at hr
      simp only [Option.some.injEq] at hv
      subst hv
      cases hr with
      | optT hr =>
        cases hr
        have := getD_bool hz
        simp [yielded, hd', this]
      | optF =>
        have : ∀ y : Bool, a.tmps[d]? ≠ some (.bool y) := by
          intro y e
          rw [Array.getD_eq_getD_getElem?, e] at hz
          simp [undef] at hz
        have hy : yielded ops a.tmps g = none := by
          unfold yielded
          simp only [hd', Option.bind_some]
          first | done | (split; · rename_i y hy; exact absurd hy (this y)
                          · rfl)
        rw [hy]; rfl
    · rename_i hx
      rw [hx] at hr
      generalize hz : a.tmps.getD d undef = z at hr
      simp only [Option.some.injEq] at hv
      subst hv
      cases hr with
      | optF =>
        have : ∀ y : Bool, a.tmps[d]? ≠ some (.bool y) := by
          intro y e
          rw [Array.getD_eq_getD_getElem?, e] at hz
          simp [undef] at hz
        have hy : yielded ops a.tmps g = none := by
          unfold yielded
          simp only [hd', Option.bind_some]
          first | done | (split; · rename_i y hy; exact absurd hy (this y)
                          · rfl)
        rw [hy]; rfl
    · cases hv

theorem wOps_sound {ops : Array Oper} {Q : Exit → Act → World → Prop} {k : St → Prop} (hk : ∀ st' a' w' Pr' b', k st' → SR C st' a' w' Pr' b' [] [] → Q .normal a' w') : ∀ (l : List Oper) (st : St) (a : Act) (w : World) (Pr : Addr → Prop) (b : List Nat),
    l.all (opDst C.N) = true → wOps C.P C.fi m ops.toList l k st → SR C st a w Pr b [] [] → wpList C.P ops Q l a w := by
  intro l
  induction l with
  | nil => intro st a w Pr b _ h hS; exact hk _ _ _ _ _ h hS
  | cons o rest ih =>
    intro st a w Pr b hd h hS
    simp only [List.all_cons, Bool.and_eq_true] at hd
    have hdst : ∀ j, o.dst = some j → j < C.N := by
      intro j hj
      have := hd.1
      simp only [opDst, hj, decide_eq_true_eq] at this
      exact this
    change wOp C.P C.fi m ops.toList o (wOps C.P C.fi m ops.toList rest k) st at h
    unfold wOp at h
    unfold wpList
    cases hg : o.guard with
    | none =>
      simp only [hg] at h
      rw [if_pos (by simp [Region.wanted, hg])]
      refine .inl (wDo_sound hS (by simp [gOk]) h ?_)
      intro av st' v w' Pr' b' hk' hS' _
      exact ih _ _ _ _ _ hd.2 hk' (hS'.put o.dst hdst)
    | some gw =>
      obtain ⟨g, want⟩ := gw
      simp only [hg] at h
      cases hv : gVal st ops.toList g want with
      | none => simp [hv] at h
      | some c =>
        simp only [hv] at h
        have hw := gVal_wanted hS hv
        have hwant : Region.wanted o (yielded ops a.tmps) = c := by simp only [Region.wanted, hg]; exact hw
        cases c with
        | true =>
          rw [if_pos hwant]
          refine .inl (wDo_sound hS (by simp [gOk]) h ?_)
          intro av st' v w' Pr' b' hk' hS' _
          have hS2 := hS'.weaken (d := .opt true av) fun L hr => ⟨L, .optT hr, fun x => Nat.le_refl _⟩
          exact ih _ _ _ _ _ hd.2 hk' (hS2.put o.dst hdst)
        | false =>
          rw [if_neg (by rw [hwant]; simp)]
          obtain ⟨av, hk'⟩ := wDo_any (by simp [gOk]) h
          exact ih _ _ _ _ _ hd.2 hk' (SR.put (c := .opt false av) (hS.push .optF) o.dst hdst)

/-- A state that says less. -/
theorem SR.kill (h : SR C st a w Pr b xs vs) (n : Nat) (hx : xs = []) : SR C (st.trunc n) a w Pr (b.take n) [] [] := by
  obtain ⟨Le, Ll, Lx, Lk, h⟩ := h
  have hm := moves_kill n b C.bl0
  have hE : ∀ (env : List (Nat × AC)) (L : List Nat), RepE C.P w Pr (b :: C.bl0) a.tmps env L → ∃ L', RepE C.P w Pr (b.take n :: C.bl0) a.tmps (env.map fun x => (x.1, mapV (killP n) x.2)) L' ∧ ∀ x, L'.count x ≤ L.count x := by
    intro env
    induction env with
    | nil => intro L h; exact ⟨[], rfl, fun x => by simp⟩
    | cons e env ih =>
      intro L h
      obtain ⟨k', v'⟩ := e
      obtain ⟨L1, L2, y, hx, hr, hE, rfl⟩ := h
      obtain ⟨M1, g1, c1⟩ := hr.mapV hm
      obtain ⟨M2, g2, c2⟩ := ih L2 hE
      exact ⟨M1 ++ M2, ⟨M1, M2, y, hx, g1, g2, rfl⟩, fun x => by have := c1 x; have := c2 x; simp only [List.count_append]; omega⟩
  have hF : ∀ (f : List (List AC)) (gs L : List Nat) (j : Nat), RepF C.P w Pr (b :: C.bl0) f gs L → ∃ L', RepF C.P w Pr (b.take n :: C.bl0) ((f.take j).map fun c => c.map (mapC (killP n))) (gs.take j) L' ∧ ∀ x, L'.count x ≤ L.count x := by
    intro f
    induction f with
    | nil => intro gs L j h; rw [h.1]; exact ⟨[], by simp [RepF], fun x => by simp⟩
    | cons c f ih =>
      intro gs L j h
      obtain ⟨g, gs', cur, T, L1, L2, rfl, hg, hr, h1, hpr, hF, rfl⟩ := h
      cases j with
      | zero => exact ⟨[], by simp [RepF], fun x => by simp⟩
      | succ j =>
        obtain ⟨M1, g1, c1⟩ := Reps.mapC hm hr
        obtain ⟨M2, g2, c2⟩ := ih gs' L2 j hF
        exact ⟨M1 ++ M2, ⟨g, gs'.take j, cur, T, M1, M2, rfl, hg, g1, h1, hpr, g2, rfl⟩, fun x => by have := c1 x; have := c2 x; simp only [List.count_append]; omega⟩
  obtain ⟨Le', e1, e2⟩ := hE _ _ h.env
  obtain ⟨f, K0, hK⟩ := h.K.cons_inv
  have hK1 := h.K
  rw [hK] at hK1
  obtain ⟨b', bl', L1, L2, eb, hF1, hK2, rfl⟩ := hK1
  cases eb
  obtain ⟨L1', f1, f2⟩ := hF f b L1 n hF1
  have htk : ∀ x, (b.take n).count x ≤ b.count x := fun x => (List.take_sublist n b).count_le x
  refine ⟨Le', [], [], L1' ++ L2, ⟨e1, rfl, .nil, ?_, fun x => ?_, fun x hx => h.new x ?_, ⟨?_, ?_⟩, by simp [St.trunc], h.prlt, h.since, h.defers, h.size⟩⟩
  · simp only [St.trunc, hK]
    exact ⟨b.take n, C.bl0, L1', L2, rfl, f1, hK2, rfl⟩
  · have := h.cnt x; have := e2 x; have := f2 x; have := htk x
    simp only [List.flatten_cons, List.count_append, List.count_nil] at *; omega
  · have := e2 x; have := f2 x; have := htk x
    simp only [List.flatten_cons, List.count_append, List.count_nil] at *; omega
  · have : (st.trunc n).env.map (·.1) = st.env.map (·.1) := by simp [St.trunc]
    rw [this]; exact h.kE.1
  · have : (st.trunc n).env.map (·.1) = st.env.map (·.1) := by simp [St.trunc]
    rw [this]; exact h.kE.2

theorem Reps.le_of {P : Program} {bl : List (List Nat)} {cs : List AC} : ∀ {ds : List AC} {vs : List Value} {L : List Nat}, Reps P w Pr bl cs vs L → cs.length = ds.length →
    (∀ (i : Nat) (h : i < cs.length) (h' : i < ds.length), ∀ v L, Rep P w Pr bl cs[i] v L → ∃ L', Rep P w Pr bl ds[i] v L' ∧ ∀ x, L'.count x ≤ L.count x) → ∃ L', Reps P w Pr bl ds vs L' ∧ ∀ x, L'.count x ≤ L.count x := by
  induction cs with
  | nil =>
    intro ds vs L h hl _
    cases ds with
    | nil => exact ⟨L, h, fun x => Nat.le_refl _⟩
    | cons d ds => simp at hl
  | cons c cs ih =>
    intro ds vs L h hl hi
    cases ds with
    | nil => simp at hl
    | cons d ds =>
      cases h with
      | cons h1 h2 =>
        obtain ⟨L1, r1, c1⟩ := hi 0 (by simp) (by simp) _ _ h1
        obtain ⟨L2, r2, c2⟩ := ih h2 (by simpa using hl) (fun i h h' v L hr => hi (i + 1) (by simpa using h) (by simpa using h') v L hr)
        exact ⟨L1 ++ L2, .cons r1 r2, fun x => by have := c1 x; have := c2 x; simp only [List.count_append]; omega⟩

theorem Rep.le {P : Program} {bl : List (List Nat)} {c d : AC} {v : Value} {L : List Nat} (h : Rep P w Pr bl c v L) (hle : AC.le c d) : ∃ L', Rep P w Pr bl d v L' ∧ ∀ x, L'.count x ≤ L.count x := by
  induction hle generalizing bl v L with
  | refl => exact ⟨L, h, fun x => Nat.le_refl _⟩
  | undef => exact ⟨[], .undef, fun x => by simp⟩
  | share => exact ⟨[], h.share, fun x => by simp⟩
  | nil => cases h; exact ⟨[], .slNil, fun x => by simp⟩
  | unx => exact ⟨L, h.unx, fun x => Nat.le_refl _⟩
  | nam _ ih =>
    cases h with
    | nam h =>
      obtain ⟨L', h1, h2⟩ := ih h
      exact ⟨L', .nam h1, h2⟩
  | bare _ ih => exact ih h.nam_inv
  | agg hl _ ih =>
    cases h with
    | agg h1 h2 =>
      obtain ⟨L', g1, g2⟩ := h1.le_of hl (fun i h h' v L hr => ih i h h' hr)
      exact ⟨L', .agg g1 h2, g2⟩
  | tup hl _ ih =>
    cases h with
    | tup h1 =>
      obtain ⟨L', g1, g2⟩ := h1.le_of hl (fun i h h' v L hr => ih i h h' hr)
      exact ⟨L', .tup g1, g2⟩
  | sl hl _ ih =>
    cases h with
    | slNo h1 h2 h3 h4 h5 =>
      obtain ⟨L', g1, g2⟩ := h1.le_of hl (fun i h h' v L hr => ih i h h' hr)
      obtain rfl := nil_of_count g2
      exact ⟨[], .slNo g1 h2 h3 h4 h5, fun x => by simp⟩
    | slNil =>
      obtain rfl := List.eq_nil_of_length_eq_zero (hl.symm.trans rfl)
      exact ⟨[], .slNil, fun x => by simp⟩
    | slOf h1 h2 h3 h4 h5 h6 h7 h8 h9 h10 =>
      obtain ⟨L', g1, g2⟩ := h1.le_of hl (fun i h h' v L hr => ih i h h' hr)
      exact ⟨_, .slOf g1 h2 h3 h4 h5 h6 h7 h8 h9 h10, fun x => by have := g2 x; simp only [List.count_cons]; omega⟩
    | slEx h1 h2 h3 h4 h5 h6 h7 h8 h9 =>
      obtain ⟨L', g1, g2⟩ := h1.le_of hl (fun i h h' v L hr => ih i h h' hr)
      exact ⟨_, .slEx g1 h2 h3 h4 h5 h6 h7 h8 h9, fun x => by have := g2 x; simp only [List.count_cons]; omega⟩

theorem RepE.remove {P : Program} {bl : List (List Nat)} {tmps : Array Value} {k : Nat} {v : AC} : ∀ {env : List (Nat × AC)} {L : List Nat}, RepE P w Pr bl tmps env L → Abs.look k env = some v →
    ∃ x Lv L' env', tmps[k]? = some x ∧ Rep P w Pr bl v x Lv ∧ RepE P w Pr bl tmps env' L' ∧ (∀ j, j ≠ k → Abs.look j env' = Abs.look j env) ∧ ∀ y, Lv.count y + L'.count y = L.count y := by
  intro env
  induction env with
  | nil => intro L h hk; simp [Abs.look] at hk
  | cons e env ih =>
    intro L h hk
    obtain ⟨k', v'⟩ := e
    obtain ⟨L1, L2, x, hx, hr, hE, rfl⟩ := h
    simp only [Abs.look] at hk
    split at hk
    · rename_i e; subst e
      cases hk
      refine ⟨x, L1, L2, env, hx, hr, hE, fun j hj => ?_, fun y => by simp⟩
      simp only [Abs.look, if_neg hj]
    · rename_i hne
      obtain ⟨x', Lv, L', env', h1, h2, h3, h4, h5⟩ := ih hE hk
      refine ⟨x', Lv, L1 ++ L', (k', v') :: env', h1, h2, ⟨L1, L', x, hx, hr, h3, rfl⟩, fun j hj => ?_, fun y => by have := h5 y; simp only [List.count_append]; omega⟩
      simp only [Abs.look]
      split
      · rfl
      · exact h4 j hj

theorem RepE.le {P : Program} {bl : List (List Nat)} {tmps : Array Value} : ∀ {t s : List (Nat × AC)} {L : List Nat}, RepE P w Pr bl tmps s L → (t.map (·.1)).Nodup → (∀ k v, Abs.look k t = some v → ∃ u, Abs.look k s = some u ∧ AC.le u v) →
    ∃ L', RepE P w Pr bl tmps t L' ∧ ∀ x, L'.count x ≤ L.count x := by
  intro t
  induction t with
  | nil => intro s L h _ _; exact ⟨[], rfl, fun x => by simp⟩
  | cons e t ih =>
    intro s L h hn hl
    obtain ⟨k, v⟩ := e
    simp only [List.map_cons, List.nodup_cons] at hn
    obtain ⟨u, hu, hle⟩ := hl k v (by simp [Abs.look])
    obtain ⟨x, Lv, L', env', h1, h2, h3, h4, h5⟩ := h.remove hu
    obtain ⟨Lv', g1, g2⟩ := h2.le hle
    have hmem : ∀ (t : List (Nat × AC)) (j : Nat) (v' : AC), Abs.look j t = some v' → j ∈ t.map (·.1) := by
      intro t
      induction t with
      | nil => intro j v' h; simp [Abs.look] at h
      | cons e t ih =>
        intro j v' h
        simp only [Abs.look] at h
        split at h
        · rename_i e'; simp [e']
        · simp [ih j v' h]
    obtain ⟨L2, r1, r2⟩ := ih h3 hn.2 (fun j v' hj => by
      have hjk : j ≠ k := by
        intro e; subst e
        exact hn.1 (hmem _ _ _ hj)
      obtain ⟨u', hu', hle'⟩ := hl j v' (by simp only [Abs.look, if_neg hjk]; exact hj)
      exact ⟨u', by rw [h4 j hjk]; exact hu', hle'⟩)
    exact ⟨Lv' ++ L2, ⟨Lv', L2, x, h1, g1, r1, rfl⟩, fun y => by have := g2 y; have := r2 y; have := h5 y; simp only [List.count_append]; omega⟩

theorem mem_look' : ∀ (t : List (Nat × AC)) (j : Nat), j ∈ t.map (·.1) → ∃ v, look j t = some v := by
  intro t
  induction t with
  | nil => intro j h; simp at h
  | cons e t ih =>
    intro j h
    simp only [look]
    split
    · exact ⟨_, rfl⟩
    · rename_i hne
      simp only [List.map_cons, List.mem_cons] at h
      rcases h with h | h
      · exact absurd h hne
      · exact ih j h

theorem mem_look : ∀ (t : List (Nat × AC)) (j : Nat) (v : AC), look j t = some v → j ∈ t.map (·.1) := by
  intro t
  induction t with
  | nil => intro j v' h; simp [look] at h
  | cons e t ih =>
    intro j v' h
    simp only [look] at h
    split at h
    · rename_i e'; simp [e']
    · simp [ih j v' h]

theorem SR.le {t : St} (h : SR C st a w Pr b xs vs) (hle : st.le t) : SR C t a w Pr b xs vs := by
  obtain ⟨Le, Ll, Lx, Lk, h⟩ := h
  obtain ⟨h1, h2, h3, h4⟩ := hle
  obtain ⟨L', r1, r2⟩ := h.env.le h1 h2
  refine ⟨L', [], Lx, Lk, ⟨r1, by rw [h3]; rfl, h.reg, by rw [← h4]; exact h.K, fun x => ?_, fun x hx => h.new x ?_, ⟨h1, fun k hk => ?_⟩, by rw [h3]; simp, h.prlt, h.since, h.defers, h.size⟩⟩
  · have := h.cnt x; have := r2 x; simp only [List.count_nil]; omega
  · have := r2 x; simp only [List.count_nil] at hx; omega
  · obtain ⟨v, hv⟩ := mem_look' _ _ hk
    obtain ⟨u, hu, _⟩ := h2 k v hv
    exact h.kE.2 k (mem_look _ _ _ hu)
end
end Go.Proofs.YtkefgpmnimpcdaaGreatDoor.Abs
/- Operations that only read: what they yield rests on their operands alone. No condition. -/
set_option linter.unusedVariables false
set_option linter.unusedSimpArgs false
namespace Go.Proofs.YtkefgpmnimpcdaaGreatDoor.Abs
open Go

/-- No operation looks into slots or writes what they alone hold. -/
class Quiet (fi : FI) : Prop where
  es : fi.es = false
  bw : fi.bw = []
instance {n0 : Nat} {ex tk kp xr th : List Nat} {qs : List Nat} {qr : List (Nat × AC)} {gb : List (Nat × Nat × Nat)} : Quiet (FI.mk n0 ex tk kp false xr [] qs qr th gb) := ⟨rfl, rfl⟩

/-- For all states in A the operation yields the same. -/
def Fixes (A : St → Prop) (W : St → (AC → St → Prop) → Prop) : Prop := ∃ (Pre : Prop) (av : AC), ∀ st, A st → ∀ k, W st k ↔ (Pre ∧ k av st)

section
variable {A : St → Prop} {P : Program} {fi : FI} {m : Bool} {gd : Option Bool} {dst : Option Nat}
theorem fixes_false : Fixes A (fun _ _ => False) := ⟨False, .undef, fun st _ k => by simp⟩
theorem fixes_ret (v : AC) : Fixes A (fun st k => k v st) := ⟨True, v, fun st _ k => by simp⟩
theorem fixes_and {c : Prop} {W : St → (AC → St → Prop) → Prop} (h : Fixes A W) : Fixes A (fun st k => c ∧ W st k) := by
  obtain ⟨p, v, h⟩ := h
  exact ⟨c ∧ p, v, fun st hs k => by show c ∧ W st k ↔ _; rw [h st hs k, and_assoc]⟩
theorem Fixes.congr {W W' : St → (AC → St → Prop) → Prop} (h : Fixes A W') (e : ∀ st, A st → ∀ k, W st k ↔ W' st k) : Fixes A W := by
  obtain ⟨p, v, h⟩ := h
  exact ⟨p, v, fun st hs k => (e st hs k).trans (h st hs k)⟩
theorem fixes_un {v : AC} {G : AC → St → (AC → St → Prop) → Prop} (h : ∀ u, Fixes A (G u)) : Fixes A (fun st k => un gd v (fun u => G u st k)) := by
  cases v with
  | opt g v => exact fixes_and (h v)
  | nam y v => exact h v
  | _ => exact h _
/-- An operand that is the same in all states. -/
theorem fixes_ev {x : Operand} {v : AC} (hx : ∀ st, A st → st.ev x = v) {G : AC → St → (AC → St → Prop) → Prop} (h : ∀ u, Fixes A (G u)) : Fixes A (fun st k => un gd (st.ev x) (fun u => G u st k)) :=
  (fixes_un (gd := gd) (v := v) h).congr fun st hs k => by rw [hx st hs]
theorem fixes_optInt {d : Int} {x : Option Operand} (hx : ∀ y, x = some y → ∃ v, ∀ st, A st → st.ev y = v) {G : Int → St → (AC → St → Prop) → Prop} (h : ∀ u, Fixes A (G u)) :
    Fixes A (fun st k => optInt gd st d x (fun u => G u st k)) := by
  cases x with
  | none => exact h d
  | some y =>
    obtain ⟨v, hv⟩ := hx y rfl
    refine fixes_ev (G := fun v st k => match v with | .int _ n => G n st k | _ => False) hv fun u => ?_
    cases u with
    | int j n => exact h n
    | _ => exact fixes_false
theorem fixes_wTs : ∀ {l : List Operand} {G : List AC → St → (AC → St → Prop) → Prop}, (∀ x ∈ l, ∃ v, ∀ st, A st → st.ev x = v) → (∀ t, Operand.tmp t ∈ l → fi.tk.elem t = false) → (∀ us, Fixes A (G us)) →
    Fixes A (fun st k => wTs fi m gd l st (fun us st => G us st k)) := by
  intro l
  induction l with
  | nil => intro G _ _ h; exact h []
  | cons x l ih =>
    intro G hx ht h
    obtain ⟨v, hv⟩ := hx x List.mem_cons_self
    have hl := ih (G := fun us st k => G us st k) (fun y hy => hx y (List.mem_cons_of_mem _ hy)) (fun t hy => ht t (List.mem_cons_of_mem _ hy))
    have key : ∀ u, Fixes A (fun st k => wTs fi m gd l st (fun us st => G (u :: us) st k)) := fun u =>
      ih (G := fun us => G (u :: us)) (fun y hy => hx y (List.mem_cons_of_mem _ hy)) (fun t hy => ht t (List.mem_cons_of_mem _ hy)) fun us => h _
    cases x with
    | tmp t =>
      have e := ht t List.mem_cons_self
      refine (fixes_ev (x := .tmp t) (gd := gd) (G := fun u st k => wTs fi m gd l st (fun us st => G (share u :: us) st k)) hv fun u => key _).congr fun st hs k => ?_
      show (un gd (st.get t) fun v => if m && fi.tk.elem t then _ else _) ↔ _
      simp only [e, Bool.and_false, Bool.false_eq_true, if_false]
      exact Iff.rfl
    | const c => exact (key (ofV c)).congr fun st hs k => Iff.rfl
    | func f => exact (key (.fn f [])).congr fun st hs k => Iff.rfl
    | global g => exact (key .undef).congr fun st hs k => Iff.rfl

theorem un_iff {v : AC} {k k' : AC → Prop} (h : ∀ u, k u ↔ k' u) : un gd v k ↔ un gd v k' := by
  cases v with
  | opt g v => exact and_congr_right fun _ => h v
  | nam y v => exact h v
  | _ => exact h _

theorem fixes_cps {W : (AC → Prop) → Prop} (h : ∃ (p : Prop) (v : AC), ∀ k, W k ↔ (p ∧ k v)) : Fixes A (fun st k => W fun v => k v st) := by
  obtain ⟨p, v, h⟩ := h
  exact ⟨p, v, fun st _ k => h _⟩

theorem wBin_cps {op : BinOp} {t : TypeId} {x y : AC} : ∃ (p : Prop) (v : AC), ∀ k, wBin P gd op t x y k ↔ (p ∧ k v) := by
  have hF : ∃ (p : Prop) (v : AC), ∀ k : AC → Prop, False ↔ (p ∧ k v) := ⟨False, .undef, by simp⟩
  have hT : ∀ u : AC, ∃ (p : Prop) (v : AC), ∀ k : AC → Prop, k u ↔ (p ∧ k v) := fun u => ⟨True, u, by simp⟩
  unfold wBin
  split
  · unfold intBin
    cases op <;> first
      | exact ⟨_, _, fun k => Iff.rfl⟩
      | exact ⟨_, _, fun k => and_assoc.symm⟩
  · unfold strBin
    cases op <;> first
      | exact hF
      | exact ⟨_, _, fun k => Iff.rfl⟩
      | exact hT _
  · split
    · exact hT _
    · exact hT _
    · exact hF
  · exact ⟨_, _, fun k => Iff.rfl⟩
  · exact ⟨_, _, fun k => Iff.rfl⟩
  · exact hF

theorem wConv_cps {src tgt : TypeId} {x : AC} : ∃ (p : Prop) (v : AC), ∀ k, wConv P src tgt x k ↔ (p ∧ k v) := by
  have hF : ∃ (p : Prop) (v : AC), ∀ k : AC → Prop, False ↔ (p ∧ k v) := ⟨False, .undef, by simp⟩
  have hT : ∀ u : AC, ∃ (p : Prop) (v : AC), ∀ k : AC → Prop, k u ↔ (p ∧ k v) := fun u => ⟨True, u, by simp⟩
  unfold wConv
  split
  · exact hT _
  · exact hT _
  · split
    · exact ⟨_, _, fun k => and_assoc.symm⟩
    · exact hF
  · exact hF

/-- What an operation that only reads rests on. -/
def Agree (op : Go.Op) (s0 st : St) : Prop := (∀ x ∈ op.operands, st.ev x = s0.ev x) ∧ (loads op = true → st.K = s0.K)

theorem noTk_of {l : List Operand} (h : l.all (noTk fi) = true) : ∀ t, Operand.tmp t ∈ l → fi.tk.elem t = false := by
  intro t ht
  have := List.all_eq_true.1 h _ ht
  simpa [noTk] using this

theorem floats_fix [hq : Quiet fi] {s0 : St} {op : Go.Op} (hf : floats fi dst op = true) : Fixes (Agree op s0) (fun st k => wDo P fi m gd dst op st k) := by
  have ev : ∀ x ∈ op.operands, ∀ st, Agree op s0 st → st.ev x = s0.ev x := fun x hx st h => h.1 x hx
  unfold floats at hf
  split at hf
  case h_1 x =>
    have hx := ev x (by simp [Op.operands])
    cases x with
    | tmp t =>
      have e : fi.takes dst = false := by simpa using hf
      refine Fixes.congr (W' := fun st k => match s0.get t with
        | .nam y v => if isX v then k (.als t none y (lenOf v)) st else k (share v) st
        | v => un gd v fun v => k (share v) st) ?_ fun st hs k => ?_
      · split
        · split
          · exact fixes_ret _
          · exact fixes_ret _
        · exact fixes_un fun u => fixes_ret _
      · have hg : st.get t = s0.get t := hx st hs
        show wD_move P fi m gd dst (.tmp t) st k ↔ _
        simp only [wD_move, e, Bool.and_false, Bool.false_eq_true, if_false, hg]
        generalize s0.get t = z
        cases z <;> exact Iff.rfl
    | const c => exact fixes_ret _
    | func f => exact fixes_ret _
    | global g => exact fixes_ret _
  case h_2 x =>
    have hx := ev x (by simp [Op.operands])
    have := fixes_wTs (A := Agree (.assign x) s0) (fi := fi) (m := m) (gd := gd) (l := [x]) (G := fun us st k => k (us.headD .undef) st) (fun y hy => by
      obtain rfl : y = x := by simpa using hy
      exact ⟨_, hx⟩) (noTk_of (by simpa using hf)) fun us => fixes_ret _
    exact this
  case h_3 c a b =>
    refine fixes_ev (x := c) (G := fun c st k => match c with
      | .bool c => un (some ((gd.getD true) && c)) (st.ev a) fun a => un (some ((gd.getD true) && !c)) (st.ev b) fun b => k (share (pickV c a b)) st
      | .undef => ¬ gOk gd ∧ k .undef st
      | _ => False) (ev c (by simp [Op.operands])) fun u => ?_
    cases u with
    | bool u =>
      refine fixes_ev (x := a) (G := fun a st k => un (some ((gd.getD true) && !u)) (st.ev b) fun b => k (share (pickV u a b)) st) (ev a (by simp [Op.operands])) fun u1 => ?_
      exact fixes_ev (x := b) (G := fun b st k => k (share (pickV u u1 b)) st) (ev b (by simp [Op.operands])) fun u2 => fixes_ret _
    | undef => exact fixes_and (fixes_ret _)
    | _ => exact fixes_false
  case h_4 t ps =>
    refine fixes_wTs (fun x hx => ⟨_, ev x (by simpa [Op.operands] using hx)⟩) (noTk_of hf) fun us => ?_
    split
    · refine fixes_and (fixes_and ?_)
      split
      · exact fixes_ret _
      · exact fixes_false
    · exact fixes_false
  case h_5 t n ps =>
    refine fixes_wTs (fun x hx => ⟨_, ev x (by simpa [Op.operands] using hx)⟩) (noTk_of hf) fun us => ?_
    split
    · refine fixes_and (fixes_and ?_)
      split
      · refine fixes_and (fixes_and ?_)
        split
        · exact fixes_and (fixes_ret _)
        · exact fixes_false
      · exact fixes_false
    · exact fixes_false
  case h_6 t x =>
    have e : fi.takes dst = false := by simpa using hf
    refine Fixes.congr (W' := fun st k => 0 < P.cellsOf t ∧ goodTy P t ∧ un gd (st.ev x) fun p => match p with
      | .ptr u i off => match getBox s0.K u i with
        | some cells => off + P.cellsOf t ≤ cells.length ∧ k (share (mkVal P t (((cells.drop off).take (P.cellsOf t)).map (mapC (liftP u))))) st
        | none => False
      | .ref cells => (gOk gd → P.cellsOf t ≤ cells.length) ∧ k (mkVal P t (cells.take (P.cellsOf t))) st
      | _ => False) ?_ fun st hs k => ?_
    · refine fixes_and (fixes_and (fixes_ev (x := x) (G := fun p st k => match p with
      | .ptr u i off => match getBox s0.K u i with
        | some cells => off + P.cellsOf t ≤ cells.length ∧ k (share (mkVal P t (((cells.drop off).take (P.cellsOf t)).map (mapC (liftP u))))) st
        | none => False
      | .ref cells => (gOk gd → P.cellsOf t ≤ cells.length) ∧ k (mkVal P t (cells.take (P.cellsOf t))) st
      | _ => False) (ev x (by simp [Op.operands])) fun u => ?_))
      split
      · split
        · exact fixes_and (fixes_ret _)
        · exact fixes_false
      · exact fixes_and (fixes_ret _)
      · exact fixes_false
    · have hK : st.K = s0.K := hs.2 rfl
      show wD_load P fi m gd dst t x st k ↔ _
      simp only [wD_load, e, hK, hq.es, Bool.and_false, Bool.false_eq_true, if_false, false_and]
      refine and_congr_right fun _ => and_congr_right fun _ => ?_
      refine un_iff fun u => ?_
      cases u <;> exact Iff.rfl
  case h_7 x =>
    refine fixes_ev (x := x) (G := fun v st k => match v with
      | .ptr u i off => k (.ptr u i off) st
      | .ref cells => k (.ref cells) st
      | .ept s y off => k (.ept s y off) st
      | _ => False) (ev x (by simp [Op.operands])) fun u => ?_
    split
    · exact fixes_ret _
    · exact fixes_ret _
    · exact fixes_ret _
    · exact fixes_false
  case h_8 o t x y t' =>
    have hny : isNilC y = false := by simpa using hf
    refine Fixes.congr (W' := fun st k => un gd (st.ev x) fun a => un gd (st.ev y) fun b => wBin P gd o t a b fun v => k v st) ?_ fun st hs k => by
      show wD_binOp P fi m gd dst o t x y t' st k ↔ _
      unfold wD_binOp; rw [if_neg (by rw [hny]; simp)]
    refine fixes_ev (x := x) (G := fun a st k => un gd (st.ev y) fun b => wBin P gd o t a b fun v => k v st) (ev x (by simp [Op.operands])) fun u => ?_
    exact fixes_ev (x := y) (G := fun b st k => wBin P gd o t u b fun v => k v st) (ev y (by simp [Op.operands])) fun u2 => fixes_cps wBin_cps
  case h_9 o t x =>
    have hx := ev x (by simp [Op.operands])
    clear ev hf
    refine fixes_ev (x := x) (G := fun v st k => match (generalizing := false) o, v with
      | .not, .bool b => k (.bool !b) st
      | .neg, .int j n => k (.int j (j.wrap (0 - n))) st
      | _, _ => False) hx fun u => ?_
    split
    · exact fixes_ret _
    · exact fixes_ret _
    · exact fixes_false
  case h_10 a b x =>
    exact fixes_ev (x := x) (G := fun v st k => wConv P a b v fun v => k v st) (ev x (by simp [Op.operands])) fun u => fixes_cps wConv_cps
  case h_11 f first captured =>
    refine fixes_and ?_
    refine Fixes.congr (W' := fun st k => (captured.toList.map s0.ev).all isPtr = true ∧ k (.fn f (captured.toList.map s0.ev)) st) (fixes_and (fixes_ret _)) fun st hs k => ?_
    have : captured.toList.map st.ev = captured.toList.map s0.ev := List.map_congr_left fun x hx => hs.1 x (by simp [Op.operands]; exact .inr (by simpa using hx))
    rw [this]
  case h_12 t a b =>
    refine fixes_ev (x := a) (G := fun n st k => un gd (st.ev b) fun c => match n, c, tdOf P t with
      | .int _ n, .int _ c, .slice e => (gOk gd → 0 ≤ n ∧ n = c ∧ n ≤ maxLen ∧ P.bytesOf e * n ≤ 281474976710656) ∧ 0 < P.cellsOf e ∧ match zeroOf P e with
        | some zs => (zs.all storable) = true ∧ (zs.all flat) = true ∧ zs.length = P.cellsOf e ∧ k (.sl (if fi.keeps dst then .ex e else .of e) n.toNat (List.replicate n.toNat zs).flatten) st
        | none => False
      | _, _, _ => False) (ev a (by simp [Op.operands])) fun u => ?_
    refine fixes_ev (x := b) (G := fun c st k => match u, c, tdOf P t with
      | .int _ n, .int _ c, .slice e => (gOk gd → 0 ≤ n ∧ n = c ∧ n ≤ maxLen ∧ P.bytesOf e * n ≤ 281474976710656) ∧ 0 < P.cellsOf e ∧ match zeroOf P e with
        | some zs => (zs.all storable) = true ∧ (zs.all flat) = true ∧ zs.length = P.cellsOf e ∧ k (.sl (if fi.keeps dst then .ex e else .of e) n.toNat (List.replicate n.toNat zs).flatten) st
        | none => False
      | _, _, _ => False) (ev b (by simp [Op.operands])) fun u2 => ?_
    split
    · refine fixes_and (fixes_and ?_)
      split
      · exact fixes_and (fixes_and (fixes_and (fixes_ret _)))
      · exact fixes_false
    · exact fixes_false
  case h_13 t x lo hi mx =>
    refine fixes_and ?_
    refine fixes_ev (x := x) (G := fun v st k => match tdOf P t, v with
      | .str, .str s => optInt gd st 0 lo fun l => optInt gd st s.length hi fun h => (gOk gd → 0 ≤ l ∧ l ≤ h ∧ h ≤ s.length) ∧ k (.str ((s.take h.toNat).drop l.toNat)) st
      | .slice e, .sl o n cells => optInt gd st 0 lo fun l => optInt gd st n hi fun h => o.isEx = false ∧ (gOk gd → 0 < P.cellsOf e ∧ 0 ≤ l ∧ l ≤ h ∧ h ≤ n) ∧
          k (.sl .no (h.toNat - l.toNat) (shareO o ((cells.take (h.toNat * P.cellsOf e)).drop (l.toNat * P.cellsOf e)))) st
      | .slice e, .als s none y (some n) => fi.es = true ∧ m = true ∧ hi = none ∧ optInt gd st 0 lo fun l => (gOk gd → 0 < n ∧ 0 ≤ l ∧ l ≤ n) ∧ P.cellsOf e = 1 ∧
          ∀ (a : Option Addr) (c : Nat), (l < n → ∃ g : Nat, a = some ⟨g, l.toNat, none⟩ ∧ y = .slice (some ⟨g, 0, none⟩) (n - l.toNat + l.toNat) (c + l.toNat)) → k (.als s none (.slice a (n - l.toNat) c) none) st
      | _, _ => False) (ev x (by simp [Op.operands])) fun u => ?_
    have hlo : ∀ y, lo = some y → ∃ v, ∀ st, Agree (.slice t x lo hi mx) s0 st → st.ev y = v := fun y hy => ⟨_, ev y (by subst hy; simp [Op.operands])⟩
    have hhi : ∀ y, hi = some y → ∃ v, ∀ st, Agree (.slice t x lo hi mx) s0 st → st.ev y = v := fun y hy => ⟨_, ev y (by subst hy; simp [Op.operands])⟩
    split
    · rename_i s _ _
      refine fixes_optInt (G := fun l st k => optInt gd st _ hi fun h => (gOk gd → 0 ≤ l ∧ l ≤ h ∧ h ≤ _) ∧ k (.str (List.drop l.toNat (List.take h.toNat _))) st) hlo fun l => ?_
      exact fixes_optInt (G := fun h st k => (gOk gd → 0 ≤ l ∧ l ≤ h ∧ h ≤ _) ∧ k (.str (List.drop l.toNat (List.take h.toNat _))) st) hhi fun h => fixes_and (fixes_ret _)
    · refine fixes_optInt (G := fun l st k => optInt gd st _ hi fun h => _ ∧ (gOk gd → 0 < P.cellsOf _ ∧ 0 ≤ l ∧ l ≤ h ∧ h ≤ _) ∧
          k (.sl .no (h.toNat - l.toNat) (shareO _ (List.drop (l.toNat * P.cellsOf _) (List.take (h.toNat * P.cellsOf _) _)))) st) hlo fun l => ?_
      exact fixes_optInt (G := fun h st k => _ ∧ (gOk gd → 0 < P.cellsOf _ ∧ 0 ≤ l ∧ l ≤ h ∧ h ≤ _) ∧
          k (.sl .no (h.toNat - l.toNat) (shareO _ (List.drop (l.toNat * P.cellsOf _) (List.take (h.toNat * P.cellsOf _) _)))) st) hhi fun h => fixes_and (fixes_and (fixes_ret _))
    · simp only [hq.es, Bool.false_eq_true, false_and]; exact fixes_false
    · exact fixes_false
  case h_14 s x f =>
    have hx := ev x (by simp [Op.operands])
    show Fixes _ (fun st k => wD_fieldAddr P fi m gd dst s x f st k)
    unfold wD_fieldAddr
    split
    · split
      · rename_i off sz _ _
        refine fixes_and (fixes_ev (x := x) (G := fun p st k => match p with
          | .ptr u i o => k (.ptr u i (o + off)) st
          | .ref cells => (gOk gd → off + sz ≤ cells.length) ∧ k (.ref ((cells.drop off).take sz)) st
          | .ept s y o => k (.ept s y (o + off)) st
          | _ => False) hx fun u => ?_)
        split
        · exact fixes_ret _
        · exact fixes_and (fixes_ret _)
        · exact fixes_ret _
        · exact fixes_false
      · exact fixes_false
    · exact fixes_false
  case h_15 s x f =>
    have hx := ev x (by simp [Op.operands])
    show Fixes _ (fun st k => wD_field P fi m gd dst s x f st k)
    unfold wD_field
    split
    · split
      · rename_i off sz t _
        refine fixes_and (fixes_and (fixes_and ((fixes_ev (x := x) (gd := gd) (G := fun v st k => match v with
          | .agg cells => off + sz ≤ cells.length ∧ k (share (mkVal P t ((cells.drop off).take sz))) st
          | _ => False) hx fun u => ?_).congr fun st hs k => un_iff fun u => ?_)))
        · split
          · exact fixes_and (fixes_ret _)
          · exact fixes_false
        · cases u with
          | als s' o' y n => cases o' <;> simp [hq.es]
          | _ => exact Iff.rfl
      · exact fixes_false
    · exact fixes_false
  case h_16 t x ix =>
    refine fixes_ev (x := x) (G := fun v st k => un gd (st.ev ix) fun i => match tdOf P t, v, i with
      | .slice e, .sl o n cells, .int _ i => o.isEx = false ∧ (gOk gd → 0 ≤ i ∧ i < n) ∧ 0 < P.cellsOf e ∧ cells.length = n * P.cellsOf e ∧
          k (.ref (shareO o ((cells.drop (i.toNat * P.cellsOf e)).take (P.cellsOf e)))) st
      | .slice e, .als s none y (some n), .int _ i => (gOk gd → 0 ≤ i ∧ i < n) ∧ 0 < P.cellsOf e ∧ k (.ept s y (i.toNat * P.cellsOf e)) st
      | .slice e, .als s none (.slice (some ⟨g, l, none⟩) n c) none, .int _ i => (gOk gd → 0 ≤ i ∧ i < n) ∧ P.cellsOf e = 1 ∧ k (.ept s (.slice (some ⟨g, 0, none⟩) (n + l) (c + l)) (i.toNat + l)) st
      | _, _, _ => False) (ev x (by simp [Op.operands])) fun u => ?_
    refine fixes_ev (x := ix) (G := fun i st k => match tdOf P t, u, i with
      | .slice e, .sl o n cells, .int _ i => o.isEx = false ∧ (gOk gd → 0 ≤ i ∧ i < n) ∧ 0 < P.cellsOf e ∧ cells.length = n * P.cellsOf e ∧
          k (.ref (shareO o ((cells.drop (i.toNat * P.cellsOf e)).take (P.cellsOf e)))) st
      | .slice e, .als s none y (some n), .int _ i => (gOk gd → 0 ≤ i ∧ i < n) ∧ 0 < P.cellsOf e ∧ k (.ept s y (i.toNat * P.cellsOf e)) st
      | .slice e, .als s none (.slice (some ⟨g, l, none⟩) n c) none, .int _ i => (gOk gd → 0 ≤ i ∧ i < n) ∧ P.cellsOf e = 1 ∧ k (.ept s (.slice (some ⟨g, 0, none⟩) (n + l) (c + l)) (i.toNat + l)) st
      | _, _, _ => False) (ev ix (by simp [Op.operands])) fun u2 => ?_
    split
    · exact fixes_and (fixes_and (fixes_and (fixes_and (fixes_ret _))))
    · exact fixes_and (fixes_and (fixes_ret _))
    · exact fixes_and (fixes_and (fixes_ret _))
    · exact fixes_false
  case h_17 t x ix =>
    refine fixes_ev (x := x) (G := fun v st k => un gd (st.ev ix) fun i => match tdOf P t, v, i with
      | .str, .str s, .int _ i => (gOk gd → 0 ≤ i ∧ i < s.length) ∧ k (.int .u8 (s.getD i.toNat 0).toNat) st
      | _, _, _ => False) (ev x (by simp [Op.operands])) fun u => ?_
    refine fixes_ev (x := ix) (G := fun i st k => match tdOf P t, u, i with
      | .str, .str s, .int _ i => (gOk gd → 0 ≤ i ∧ i < s.length) ∧ k (.int .u8 (s.getD i.toNat 0).toNat) st
      | _, _, _ => False) (ev ix (by simp [Op.operands])) fun u2 => ?_
    split
    · exact fixes_and (fixes_ret _)
    · exact fixes_false
  case h_18 x i =>
    have e : fi.takes dst = false := by simpa using hf
    refine Fixes.congr (W' := fun st k => un gd (st.ev x) fun v => match v with
      | .tup vs => match vs[i]? with
        | some v => k (share v) st
        | none => False
      | _ => False) ?_ fun st hs k => ?_
    · refine fixes_ev (x := x) (G := fun v st k => match v with
        | .tup vs => match vs[i]? with
          | some v => k (share v) st
          | none => False
        | _ => False) (ev x (by simp [Op.operands])) fun u => ?_
      split
      · split
        · exact fixes_ret _
        · exact fixes_false
      · exact fixes_false
    · show wD_extract P fi m gd dst x i st k ↔ _
      simp only [wD_extract, e, Bool.and_false, Bool.false_eq_true, if_false]
      exact Iff.rfl
  case h_19 => cases hf
end
end Go.Proofs.YtkefgpmnimpcdaaGreatDoor.Abs
/- What an operation does rests on its operands and on the boxes alone. No condition. -/
set_option linter.unusedVariables false
set_option linter.unusedSimpArgs false
namespace Go.Proofs.YtkefgpmnimpcdaaGreatDoor.Abs
open Go

/-- Two states that agree on the slots of A, and on the boxes. -/
def Ag (A : Nat → Prop) (s s' : St) : Prop := (∀ t, A t → look t s.env = look t s'.env ∧ look t s.loc = look t s'.loc) ∧ s.K = s'.K
/-- Slots that are not among O are as they were. -/
def Fr (O : List Operand) (s0 s : St) : Prop := ∀ t, Operand.tmp t ∉ O → look t s.env = look t s0.env ∧ look t s.loc = look t s0.loc

section
variable {A : Nat → Prop} {P : Program} {fi : FI} {m : Bool} {gd : Option Bool} {dst : Option Nat} {s s' s0 : St}

theorem un_mono {v : AC} {k k' : AC → Prop} (h : ∀ u, k u → k' u) (hu : un gd v k) : un gd v k' := by
  cases v with
  | opt g v => exact ⟨hu.1, h _ hu.2⟩
  | nam y v => exact h _ hu
  | _ => exact h _ hu

theorem Fr.refl {O : List Operand} : Fr O s s := fun t _ => ⟨rfl, rfl⟩
theorem Fr.trans {O O' : List Operand} {s1 : St} (h : Fr O s0 s) (h' : Fr O' s s1) : Fr (O ++ O') s0 s1 := fun t ht => by
  rw [List.mem_append] at ht
  obtain ⟨a, b⟩ := h t (fun e => ht (.inl e))
  obtain ⟨c, d⟩ := h' t (fun e => ht (.inr e))
  exact ⟨c.trans a, d.trans b⟩
theorem Fr.mono {O O' : List Operand} (h : Fr O s0 s) (hs : ∀ x ∈ O, x ∈ O') : Fr O' s0 s := fun t ht => h t fun e => ht (hs _ e)

theorem look_setE' {k j : Nat} {v : AC} : ∀ {l : List (Nat × AC)}, look j (setE k v l) = if j = k then some v else look j l := by
  intro l
  induction l with
  | nil => simp only [setE, look]
  | cons x l ih =>
    obtain ⟨a, b⟩ := x
    simp only [setE]
    split
    · rename_i e; subst e; simp only [look]; split <;> rfl
    · rename_i e
      simp only [look, ih]
      split
      · rename_i e2; subst e2; rw [if_neg (fun h => e h.symm)]
      · rfl

theorem Ag.get {t : Nat} (h : Ag A s s') (ht : A t) : s.get t = s'.get t := by
  unfold St.get; rw [(h.1 t ht).1, (h.1 t ht).2]
theorem Ag.ev {x : Operand} (h : Ag A s s') (hx : ∀ t, x = .tmp t → A t) : s.ev x = s'.ev x := by
  cases x with
  | tmp t => exact h.get (hx t rfl)
  | _ => rfl
theorem Ag.weak {t : Nat} (h : Ag A s s') (ht : A t) : Ag A (s.weak t) (s'.weak t) := by
  obtain ⟨h1, h2⟩ := h
  obtain ⟨e1, e2⟩ := h1 t ht
  unfold St.weak
  rw [← e2]
  split
  · refine ⟨fun j hj => ⟨(h1 j hj).1, ?_⟩, h2⟩
    simp only [look_setE']
    rw [(h1 j hj).2]
  · rw [← e1]
    split
    · refine ⟨fun j hj => ⟨?_, (h1 j hj).2⟩, h2⟩
      simp only [look_setE']
      rw [(h1 j hj).1]
    · exact ⟨h1, h2⟩
theorem St.weak_K {t : Nat} : (s.weak t).K = s.K := by
  unfold St.weak; split
  · rfl
  · split <;> rfl
theorem Fr.weak {t : Nat} : Fr [.tmp t] s (s.weak t) := by
  intro j hj
  have hne : j ≠ t := fun e => hj (by simp [e])
  unfold St.weak
  split
  · refine ⟨rfl, ?_⟩; simp [look_setE', hne]
  · split
    · refine ⟨?_, rfl⟩; simp [look_setE', hne]
    · exact ⟨rfl, rfl⟩

theorem wT_rel {x : Operand} {k k' : AC → St → Prop} (h : Ag A s s') (hx : ∀ t, x = .tmp t → A t)
    (hk : ∀ v s1 s1', Ag A s1 s1' → Fr [x] s s1 → Fr [x] s' s1' → k v s1 → k' v s1') (hw : wT fi m gd s x k) : wT fi m gd s' x k' := by
  cases x with
  | tmp t =>
    have hw : un gd (s.get t) fun v => if m && fi.tk.elem t then k v (s.weak t) else k (share v) s := hw
    show un gd (s'.get t) fun v => if m && fi.tk.elem t then k' v (s'.weak t) else k' (share v) s'
    rw [← h.get (hx t rfl)]
    refine un_mono (fun u hu => ?_) hw
    split
    · rename_i hc; rw [if_pos hc] at hu; exact hk _ _ _ (h.weak (hx t rfl)) Fr.weak Fr.weak hu
    · rename_i hc; rw [if_neg hc] at hu; exact hk _ _ _ h Fr.refl Fr.refl hu
  | _ => exact hk _ _ _ h Fr.refl Fr.refl hw

theorem wTs_rel : ∀ {l : List Operand} {s s' : St} {k k' : List AC → St → Prop}, Ag A s s' → (∀ t, Operand.tmp t ∈ l → A t) →
    (∀ v s1 s1', Ag A s1 s1' → Fr l s s1 → Fr l s' s1' → k v s1 → k' v s1') → wTs fi m gd l s k → wTs fi m gd l s' k' := by
  intro l
  induction l with
  | nil => intro s s' k k' h _ hk hw; exact hk _ _ _ h Fr.refl Fr.refl hw
  | cons x l ih =>
    intro s s' k k' h hx hk hw
    have hw : wT fi m gd s x (fun v st => wTs fi m gd l st fun vs st => k (v :: vs) st) := hw
    refine wT_rel (k' := fun v st => wTs fi m gd l st fun vs st => k' (v :: vs) st) h (fun t e => hx t (by simp [e])) (fun v s1 s1' h1 f1 f1' hw1 => ?_) hw
    exact ih h1 (fun t ht => hx t (List.mem_cons_of_mem _ ht)) (fun vs s2 s2' h2 f2 f2' hh => hk _ _ _ h2 (f1.trans f2) (f1'.trans f2') hh) hw1

theorem Ag.setK {K1 : List (List (List AC))} (h : Ag A s s') : Ag A { s with K := K1 } { s' with K := K1 } := ⟨h.1, rfl⟩
theorem Fr.setK {O : List Operand} {K1 : List (List (List AC))} (h : Fr O s0 s) : Fr O s0 { s with K := K1 } := h

/-- An operation sees its operands and the boxes. -/
theorem Ag.setAt {t : Nat} {v : AC} (h : Ag A s s') (ht : A t) : Ag A (s.setAt t v) (s'.setAt t v) := by
  obtain ⟨h1, h2⟩ := h
  obtain ⟨e1, e2⟩ := h1 t ht
  unfold St.setAt
  rw [← e2]
  split
  · refine ⟨fun j hj => ⟨(h1 j hj).1, ?_⟩, h2⟩
    simp only [look_setE']
    rw [(h1 j hj).2]
  · refine ⟨fun j hj => ⟨?_, (h1 j hj).2⟩, h2⟩
    simp only [look_setE']
    rw [(h1 j hj).1]
theorem Fr.setAt {t : Nat} {v : AC} : Fr [.tmp t] s (s.setAt t v) := by
  intro j hj
  have hne : j ≠ t := fun e => hj (by simp [e])
  unfold St.setAt
  split
  · refine ⟨rfl, ?_⟩; simp [look_setE', hne]
  · refine ⟨?_, rfl⟩; simp [look_setE', hne]

theorem wDo_rel [hq : Quiet fi] {op : Go.Op} {k k' : AC → St → Prop} (h : Ag A s s') (hO : ∀ t, Operand.tmp t ∈ op.operands → A t)
    (hk : ∀ v s1 s1', Ag A s1 s1' → Fr op.operands.toList s s1 → Fr op.operands.toList s' s1' → k v s1 → k' v s1') (hw : wDo P fi m gd dst op s k) : wDo P fi m gd dst op s' k' := by
  by_cases hf : floats fi dst op = true
  · obtain ⟨p, av, hfix⟩ := floats_fix (P := P) (m := m) (gd := gd) (s0 := s) hf
    have h1 := (hfix s ⟨fun x _ => rfl, fun _ => rfl⟩ k).1 hw
    exact (hfix s' ⟨fun x hx => (h.ev fun t e => hO t (by rw [← e]; exact hx)).symm, fun _ => h.2.symm⟩ k').2 ⟨h1.1, hk _ _ _ h Fr.refl Fr.refl h1.2⟩
  · unfold wDo at hw
    split at hw
    case h_1 x =>
      cases x with
      | tmp t =>
        have ht := hO t (by simp [Op.operands])
        replace hw : wD_move P fi m gd dst (.tmp t) s k := hw
        show wD_move P fi m gd dst (.tmp t) s' k'
        simp only [wD_move] at hw ⊢
        rw [← h.get ht]
        split
        · rename_i hc; rw [if_pos hc] at hw
          refine un_mono (fun u hu => ?_) hw
          exact hk _ _ _ (h.weak ht) (by simpa [Op.operands] using Fr.weak) (by simpa [Op.operands] using Fr.weak) hu
        · rename_i hc; rw [if_neg hc] at hw
          revert hw
          generalize s.get t = z
          intro hw
          cases z with
          | nam y v =>
            simp only at hw ⊢
            split
            · rename_i hX; rw [if_pos hX] at hw; exact hk _ _ _ h Fr.refl Fr.refl hw
            · rename_i hX; rw [if_neg hX] at hw; exact hk _ _ _ h Fr.refl Fr.refl hw
          | opt g v => exact ⟨hw.1, hk _ _ _ h Fr.refl Fr.refl hw.2⟩
          | _ => exact hk _ _ _ h Fr.refl Fr.refl hw
      | _ => exact hk _ _ _ h Fr.refl Fr.refl hw
    case h_2 x => exact wT_rel h (fun t e => hO t (by simp [Op.operands, e])) (by simpa [Op.operands] using hk) hw
    case h_3 => simp [floats] at hf
    case h_4 t =>
      have hw : m = true ∧ _ := hw
      refine ⟨hw.1, ?_⟩
      have hw := hw.2
      rw [← h.2]
      split at hw
      · exact ⟨hw.1, hk _ _ _ h.setK Fr.refl.setK Fr.refl.setK hw.2⟩
      · exact hw.elim
    case h_5 t x =>
      have hw : m = true ∧ _ := hw
      have hes : (fi.es && fi.keeps dst) = false := by rw [hq.es]; rfl
      simp only [hes, Bool.false_eq_true, if_false] at hw
      refine ⟨hw.1, ?_⟩
      simp only [hes, Bool.false_eq_true, if_false]
      refine wT_rel h (fun t e => hO t (by simp [Op.operands, e])) (fun v s1 s1' h1 f1 f1' hh => ?_) hw.2
      rw [← h1.2]
      split at hh
      · exact hh.elim
      · exact hh.elim
      · exact ⟨hh.1, hk _ _ _ h1.setK (by simpa [Op.operands] using f1.setK) (by simpa [Op.operands] using f1'.setK) hh.2⟩
      · exact hh.elim
    case h_6 t ps =>
      refine wTs_rel h (fun t e => hO t (by simpa [Op.operands] using e)) (fun vs s1 s1' h1 f1 f1' hh => ?_) hw
      split at hh
      · refine ⟨hh.1, hh.2.1, ?_⟩
        have hh := hh.2.2
        split at hh
        · exact hk _ _ _ h1 (by simpa [Op.operands] using f1) (by simpa [Op.operands] using f1') hh
        · exact hh.elim
      · exact hh.elim
    case h_7 t n ps =>
      refine wTs_rel h (fun t e => hO t (by simpa [Op.operands] using e)) (fun vs s1 s1' h1 f1 f1' hh => ?_) hw
      split at hh
      · refine ⟨hh.1, hh.2.1, ?_⟩
        have hh := hh.2.2
        split at hh
        · refine ⟨hh.1, hh.2.1, ?_⟩
          have hh := hh.2.2
          split at hh
          · exact ⟨hh.1, hk _ _ _ h1 (by simpa [Op.operands] using f1) (by simpa [Op.operands] using f1') hh.2⟩
          · exact hh.elim
        · exact hh.elim
      · exact hh.elim
    case h_8 t x =>
      have hx : s.ev x = s'.ev x := h.ev fun t e => hO t (by simp [Op.operands, e])
      refine ⟨hw.1, hw.2.1, ?_⟩
      have hw := hw.2.2
      rw [← hx, ← h.2]
      refine un_mono (fun u hu => ?_) hw
      cases u with
      | ptr u i off =>
        cases hb : getBox s.K u i with
        | none => simp only [hb] at hu
        | some cells =>
          simp only [hb] at hu ⊢
          refine ⟨hu.1, ?_⟩
          have hu := hu.2
          rw [if_neg (by simp [hq.es])] at hu ⊢
          split
          · rename_i hc; rw [if_pos hc] at hu; exact hk _ _ _ h.setK Fr.refl.setK Fr.refl.setK hu
          · rename_i hc; rw [if_neg hc] at hu; exact hk _ _ _ h Fr.refl Fr.refl hu
      | ref cells => exact ⟨hu.1, hk _ _ _ h Fr.refl Fr.refl hu.2⟩
      | ept q y o => have := hu.1; rw [hq.es] at this; cases this
      | _ => exact hu.elim
    case h_9 t a x =>
      have ha : s.ev a = s'.ev a := h.ev fun t e => hO t (by simp [Op.operands, e])
      refine ⟨hw.1, hw.2.1, hw.2.2.1, ?_⟩
      have hw := hw.2.2.2
      rw [← ha]
      refine un_mono (fun p hp => ?_) hw
      refine wT_rel h (fun t e => hO t (by simp [Op.operands, e])) (fun v s1 s1' h1 f1 f1' hh => ?_) hp
      have g1 : Fr (Op.store t a x).operands.toList s s1 := f1.mono (by simp [Op.operands])
      have g1' : Fr (Op.store t a x).operands.toList s' s1' := f1'.mono (by simp [Op.operands])
      cases p with
      | ptr u i off =>
        simp only [← h1.2]
        cases hb : getBox s1.K u i with
        | none => simp only [hb] at hh
        | some cells =>
          simp only [hb] at hh ⊢
          refine ⟨hh.1, hh.2.1, hh.2.2.1, ?_⟩
          have hh := hh.2.2.2
          split
          · rename_i new hn
            simp only [hn] at hh
            exact hk _ _ _ h1.setK g1.setK g1'.setK hh
          · rename_i hn
            simp only [hn] at hh
      | ept q y o => have := hh.1; rw [hq.es] at this; cases this
      | _ => exact hh.elim
    case h_11 o t x y t' =>
      have hny : isNilC y = true := by simpa [floats] using hf
      replace hw : wD_binOp P fi m gd dst o t x y t' s k := hw
      show wD_binOp P fi m gd dst o t x y t' s' k'
      unfold wD_binOp at hw ⊢
      rw [if_pos hny] at hw ⊢
      have hx : s.ev x = s'.ev x := h.ev fun t e => hO t (by simp [Op.operands, e])
      rw [← hx]
      refine un_mono (fun u hu => ?_) hw
      unfold nilCmp at hu ⊢
      split at hu
      · exact ⟨hu.1, fun b hb => hk _ _ _ h Fr.refl Fr.refl (hu.2 b hb)⟩
      · exact ⟨hu.1, fun b hb => hk _ _ _ h Fr.refl Fr.refl (hu.2 b hb)⟩
      · exact hu.elim
    case h_21 x i =>
      simp only [floats, Bool.not_eq_true', Bool.not_eq_false] at hf
      have hx : s.ev x = s'.ev x := h.ev fun t e => hO t (by simp [Op.operands, e])
      show un gd (s'.ev x) _
      rw [← hx]
      refine un_mono (fun u hu => ?_) hw
      cases u with
      | tup vs =>
        cases hv : vs[i]? with
        | none => simp only [hv] at hu
        | some v =>
          simp only [hv] at hu ⊢
          split
          · rename_i hc; rw [if_pos hc] at hu
            cases x with
            | tmp t =>
              exact hk _ _ _ (h.setAt (hO t (by simp [Op.operands]))) (by simpa [Op.operands] using Fr.setAt) (by simpa [Op.operands] using Fr.setAt) hu
            | _ => exact hu.elim
          · rename_i hc; rw [if_neg hc] at hu; exact hk _ _ _ h Fr.refl Fr.refl hu
      | _ => exact hu.elim
    case h_22 c =>
      obtain ⟨cal, args, ts⟩ := c
      cases cal with
      | value f =>
        have hx : s.ev f = s'.ev f := h.ev fun t e => hO t (by simp [Op.operands, Call.operands, e])
        show un gd (s'.ev f) _
        rw [← hx]
        refine un_mono (fun u hu => ?_) hw
        cases u with
        | fn g caps =>
          have hb : (m && fi.bw.elem g) = false := by rw [hq.bw]; simp
          simp only [hb, Bool.false_eq_true, if_false] at hu ⊢
          refine wTs_rel h (fun t e => hO t (by simp [Op.operands, Call.operands]; exact .inr (by simpa using e))) (fun vs s1 s1' h1 f1 f1' hh => ?_) hu
          have g1 : Fr (Op.call ⟨.value f, args, ts⟩).operands.toList s s1 := f1.mono (by intro x hx; simp [Op.operands, Call.operands]; exact .inr (by simpa using hx))
          have g1' : Fr (Op.call ⟨.value f, args, ts⟩).operands.toList s' s1' := f1'.mono (by intro x hx; simp [Op.operands, Call.operands]; exact .inr (by simpa using hx))
          unfold callK at hh ⊢
          rw [← h1.2]
          split
          · rename_i hc; rw [if_pos hc] at hh
            obtain ⟨r, K', hct, hh⟩ := hh
            exact ⟨r, K', hct, hk _ _ _ h1.setK g1.setK g1'.setK hh⟩
          · rename_i hc; rw [if_neg hc] at hh
            obtain ⟨r, hct, hh⟩ := hh
            exact ⟨r, hct, hk _ _ _ h1 g1 g1' hh⟩
        | _ => exact hu.elim
      | invoke r me => exact hw.elim
      | builtin b =>
        have hops : ∀ x ∈ args.toList, x ∈ (Op.call ⟨.builtin b, args, ts⟩).operands.toList := by
          intro x hx; simp [Op.operands, Call.operands]; simpa using hx
        replace hw : wBuiltin P fi m (fi.keeps dst) gd b args.toList ts.toList s k := hw
        show wBuiltin P fi m (fi.keeps dst) gd b args.toList ts.toList s' k'
        generalize args.toList = al at hw hops
        generalize ts.toList = tl at hw
        unfold wBuiltin at hw
        split at hw
        · rename_i x t ts'
          have hx : s.ev x = s'.ev x := h.ev fun t e => hO t (by have := hops x (by simp); rw [e] at this; simpa using this)
          show un gd (s'.ev x) _
          rw [← hx]
          refine un_mono (fun u hu => ?_) hw
          unfold wLen at hu ⊢
          split at hu
          · exact fun hl => hk _ _ _ h Fr.refl Fr.refl (hu hl)
          · exact fun hl => hk _ _ _ h Fr.refl Fr.refl (hu hl)
          · exact fun hl => hk _ _ _ h Fr.refl Fr.refl (hu hl)
          · exact hk _ _ _ h Fr.refl Fr.refl hu
          · exact ⟨hu.1, hk _ _ _ h Fr.refl Fr.refl hu.2⟩
          · exact hu.elim
        · rename_i t x t1 t2
          have ht : A t := hO t (by have := hops (.tmp t) (by simp); simpa using this)
          refine ⟨hw.1, ?_⟩
          have hw := hw.2
          split at hw
          · rename_i htd
            rw [← h.get ht]
            refine wT_rel (h.weak ht) (fun j e => hO j (by have := hops x (by simp); rw [e] at this; simpa using this)) (fun v s1 s1' h1 f1 f1' hh => ?_) hw
            have sub : ∀ y ∈ [Operand.tmp t] ++ [x], y ∈ (Op.call ⟨.builtin .append, args, ts⟩).operands.toList := fun y hy => hops y (by simpa using hy)
            have g1 := (Fr.weak.trans f1).mono sub
            have g1' := (Fr.weak.trans f1').mono sub
            unfold wAppendS at hh ⊢
            split at hh
            · split at hh
              · exact ⟨hh.1, hh.2.1, hh.2.2.1, hh.2.2.2.1, hk _ _ _ h1 g1 g1' hh.2.2.2.2⟩
              · exact hh.elim
            · exact hh.elim
          · rename_i htd
            refine ⟨hw.1, ?_⟩
            have hw := hw.2
            rw [← h.get ht]
            refine wT_rel (h.weak ht) (fun j e => hO j (by have := hops x (by simp); rw [e] at this; simpa using this)) (fun v s1 s1' h1 f1 f1' hh => ?_) hw
            have sub : ∀ y ∈ [Operand.tmp t] ++ [x], y ∈ (Op.call ⟨.builtin .append, args, ts⟩).operands.toList := fun y hy => hops y (by simpa using hy)
            have g1 := (Fr.weak.trans f1).mono sub
            have g1' := (Fr.weak.trans f1').mono sub
            unfold wAppend at hh ⊢
            split at hh
            · split at hh
              · exact ⟨hh.1, hh.2.1, hh.2.2.1, hh.2.2.2.1, hh.2.2.2.2.1, hk _ _ _ h1 g1 g1' hh.2.2.2.2.2⟩
              · exact hh.elim
            · split at hh
              · exact ⟨hh.1, hh.2.1, hh.2.2.1, hh.2.2.2.1, hh.2.2.2.2.1, hk _ _ _ h1 g1 g1' hh.2.2.2.2.2⟩
              · exact hh.elim
            · exact hh.elim
        · rename_i tl x y
          have hx : s.ev x = s'.ev x := h.ev fun t e => hO t (by have := hops x (by simp); rw [e] at this; simpa using this)
          have hy : s.ev y = s'.ev y := h.ev fun t e => hO t (by have := hops y (by simp); rw [e] at this; simpa using this)
          show un gd (s'.ev x) fun u => un gd (s'.ev y) _
          rw [← hx, ← hy]
          refine un_mono (fun u hu => un_mono (fun v hv => ?_) hu) hw
          split at hv
          · exact ⟨hv.1, hk _ _ _ h Fr.refl Fr.refl hv.2⟩
          · exact hv.elim
        · rename_i tl x y
          have hx : s.ev x = s'.ev x := h.ev fun t e => hO t (by have := hops x (by simp); rw [e] at this; simpa using this)
          have hy : s.ev y = s'.ev y := h.ev fun t e => hO t (by have := hops y (by simp); rw [e] at this; simpa using this)
          show un gd (s'.ev x) fun u => un gd (s'.ev y) _
          rw [← hx, ← hy]
          refine un_mono (fun u hu => un_mono (fun v hv => ?_) hu) hw
          split at hv
          · exact ⟨hv.1, hk _ _ _ h Fr.refl Fr.refl hv.2⟩
          · exact hv.elim
        · exact hw.elim
    all_goals first | (exact hw.elim; done) | (exact absurd rfl hf; done) | (simp [floats] at hf; done)
end
end Go.Proofs.YtkefgpmnimpcdaaGreatDoor.Abs
/- Two operations, of which one only reads, in either order. No condition. -/
set_option linter.unusedVariables false
set_option linter.unusedSectionVars false
set_option linter.unusedSimpArgs false
namespace Go.Proofs.YtkefgpmnimpcdaaGreatDoor.Abs
open Go

section
variable {A : Nat → Prop} {P : Program} {fi : FI} [hq : Quiet fi] {m kd : Bool} {gd : Option Bool} {dst : Option Nat} {s s' s0 st st' : St} {ops : List Oper}

theorem un_const {v : AC} {c : Prop} (h : un gd v fun _ => c) : c := by
  cases v with
  | opt g v => exact h.2
  | nam y v => exact h
  | _ => exact h
theorem wT_const' {x : Operand} {c : Prop} (h : wT fi m gd st x fun _ _ => c) : c := by
  cases x with
  | tmp t =>
    have h : un gd (st.get t) fun v => if m && fi.tk.elem t then c else c := h
    simp only [ite_self] at h
    exact un_const h
  | _ => exact h
theorem wTs_const {c : Prop} : ∀ {l : List Operand} {st : St}, wTs fi m gd l st (fun _ _ => c) → c := by
  intro l
  induction l with
  | nil => intro st h; exact h
  | cons x l ih =>
    intro st h
    have h : wT fi m gd st x (fun v st => wTs fi m gd l st fun vs st => c) := h
    exact wT_const' (wT_rel (A := fun _ => True) (s' := st) ⟨fun _ _ => ⟨rfl, rfl⟩, rfl⟩ (fun _ _ => trivial) (fun _ _ _ _ _ _ hh => ih hh) h)

theorem wXs_mono {k k' : List AC → Prop} (h : ∀ vs, k vs → k' vs) : ∀ {l : List Operand}, wXs gd st l k → wXs gd st l k' := by
  intro l
  induction l generalizing k k' with
  | nil => intro hh; exact h _ hh
  | cons x l ih => intro hh; exact un_mono (fun u hu => ih (fun vs hv => h _ hv) hu) hh
theorem wXs_const {c : Prop} : ∀ {l : List Operand}, wXs gd st l (fun _ => c) → c := by
  intro l
  induction l with
  | nil => intro h; exact h
  | cons x l ih => intro h; exact un_const (un_mono (fun u hu => ih hu) h)
theorem isQ_not {op : Go.Op} (h : qOk fi dst op = false) : isQ fi dst op = none := by
  unfold isQ
  split
  · rw [if_neg (by rw [h]; simp)]
  · rfl
theorem isQ_some {op : Go.Op} {f : Operand} {args : List Operand} {r : AC} (h : isQ fi dst op = some (f, args, r)) : (∃ a ts, op = .call ⟨.value f, a, ts⟩ ∧ a.toList = args) ∧ args.all (noTk fi) = true ∧ qOk fi dst op = true := by
  unfold isQ at h
  split at h
  · rename_i f' a ts
    split at h
    · rename_i hq
      cases h
      refine ⟨⟨_, _, rfl, rfl⟩, ?_, hq⟩
      simp only [qOk] at hq
      cases dst with
      | none => simp at hq
      | some d => simp only [Bool.and_eq_true] at hq; exact hq.2
    · cases h
  · cases h
theorem isQ_len {op : Go.Op} (h : qOk fi dst op = true) : isLen op = none := by
  unfold qOk at h
  split at h
  · rfl
  · cases h
/-- What is asked behind an operation, whatever it yields, holds. -/
theorem wDoD_const {op : Go.Op} {c : Prop} (h : wDoD P fi m gd dst op st fun _ _ => c) : c := by
  unfold wDoD at h
  split at h
  · refine un_const (un_mono (fun u hu => ?_) h)
    unfold wLenD at hu
    split at hu
    · exact hu
    · exact hu
    · exact hu.2
    · exact hu.elim
  · rename_i hlen
    split at h
    · rename_i f args r hQ
      refine un_const (un_mono (fun u hu => ?_) h)
      cases u with
      | fn g caps => exact (wXs_const (gd := gd) (st := st) (l := args) (wXs_mono (fun vs hv => hv.2) hu))
      | _ => exact hu.elim
    rename_i hQ0; clear hQ0
    by_cases hf : floats fi dst op = true
    · obtain ⟨p, av, hfix⟩ := floats_fix (P := P) (m := m) (gd := gd) (s0 := st) hf
      exact ((hfix st ⟨fun x _ => rfl, fun _ => rfl⟩ _).1 h).2
    · unfold wDo at h
      split at h
      case h_1 x =>
        cases x with
        | tmp t =>
          replace h : wD_move P fi m gd dst (.tmp t) st (fun _ _ => c) := h
          simp only [wD_move] at h
          split at h
          · exact un_const h
          · revert h
            generalize st.get t = z
            intro h
            cases z with
            | nam y v => simp only [ite_self] at h; exact h
            | opt g v => exact h.2
            | _ => exact h
        | _ => exact h
      case h_2 x => exact wT_const' h
      case h_4 t =>
        have h := h.2
        split at h
        · exact h.2
        · exact h.elim
      case h_5 t x =>
        have hes : (fi.es && fi.keeps dst) = false := by rw [hq.es]; rfl
        have h : m = true ∧ _ := h
        simp only [hes, Bool.false_eq_true, if_false] at h
        refine wT_const' (wT_rel (A := fun _ => True) (s' := st) ⟨fun _ _ => ⟨rfl, rfl⟩, rfl⟩ (fun _ _ => trivial) (fun v s1 s1' _ _ _ hh => ?_) h.2)
        split at hh
        · exact hh.elim
        · exact hh.elim
        · exact hh.2
        · exact hh.elim
      case h_6 t ps =>
        refine wTs_const (wTs_rel (A := fun _ => True) (s' := st) ⟨fun _ _ => ⟨rfl, rfl⟩, rfl⟩ (fun _ _ => trivial) (fun v s1 s1' _ _ _ hh => ?_) h)
        split at hh
        · have hh := hh.2.2
          split at hh
          · exact hh
          · exact hh.elim
        · exact hh.elim
      case h_7 t n ps =>
        refine wTs_const (wTs_rel (A := fun _ => True) (s' := st) ⟨fun _ _ => ⟨rfl, rfl⟩, rfl⟩ (fun _ _ => trivial) (fun v s1 s1' _ _ _ hh => ?_) h)
        split at hh
        · have hh := hh.2.2
          split at hh
          · have hh := hh.2.2
            split at hh
            · exact hh.2
            · exact hh.elim
          · exact hh.elim
        · exact hh.elim
      case h_8 t x =>
        refine un_const (un_mono (fun u hu => ?_) h.2.2)
        cases u with
        | ptr u i off =>
          cases hb : getBox st.K u i with
          | none => simp only [hb] at hu
          | some cells =>
            simp only [hb, hq.es, Bool.and_false, Bool.false_and, Bool.false_eq_true, if_false, ite_self] at hu
            exact hu.2
        | ref cells => exact hu.2
        | ept q y o => have := hu.1; rw [hq.es] at this; cases this
        | _ => exact hu.elim
      case h_9 t a x =>
        refine un_const (un_mono (fun p hp => ?_) h.2.2.2)
        refine wT_const' (wT_rel (A := fun _ => True) (s' := st) ⟨fun _ _ => ⟨rfl, rfl⟩, rfl⟩ (fun _ _ => trivial) (fun v s1 s1' _ _ _ hh => ?_) hp)
        cases p with
        | ptr u i off =>
          cases hb : getBox s1.K u i with
          | none => simp only [hb] at hh
          | some cells =>
            simp only [hb] at hh
            have hh := hh.2.2.2
            split at hh
            · exact hh
            · exact hh.elim
        | ept q y o => have := hh.1; rw [hq.es] at this; cases this
        | _ => exact hh.elim
      case h_11 o t x y t' =>
        have hny : isNilC y = true := by simpa [floats] using hf
        unfold wD_binOp at h
        rw [if_pos hny] at h
        refine un_const (un_mono (fun u hu => ?_) h)
        unfold nilCmp at hu
        split at hu
        · exact hu.2 false (fun h => by cases h)
        · exact hu.2 true (fun h => by cases h)
        · exact hu.elim
      case h_21 x i =>
        refine un_const (un_mono (fun u hu => ?_) h)
        cases u with
        | tup vs =>
          cases hv : vs[i]? with
          | none => simp only [hv] at hu
          | some v =>
            simp only [hv] at hu
            split at hu
            · cases x with
              | tmp t => exact hu
              | _ => exact hu.elim
            · exact hu
        | _ => exact hu.elim
      case h_22 cl =>
        obtain ⟨cal, args, ts⟩ := cl
        cases cal with
        | value f =>
          refine un_const (un_mono (fun u hu => ?_) h)
          cases u with
          | fn g caps =>
            have hb : (m && fi.bw.elem g) = false := by rw [hq.bw]; simp
            simp only [hb, Bool.false_eq_true, if_false] at hu
            refine wTs_const (wTs_rel (A := fun _ => True) (s' := st) ⟨fun _ _ => ⟨rfl, rfl⟩, rfl⟩ (fun _ _ => trivial) (fun v s1 s1' _ _ _ hh => ?_) hu)
            unfold callK at hh
            split at hh
            · obtain ⟨_, _, _, hh⟩ := hh; exact hh
            · obtain ⟨_, _, hh⟩ := hh; exact hh
          | _ => exact hu.elim
        | invoke r me => exact h.elim
        | builtin b =>
          replace h : wBuiltin P fi m (fi.keeps dst) gd b args.toList ts.toList st (fun _ _ => c) := h
          unfold wBuiltin at h
          split at h
          · rename_i x t ts' h1 h2
            simp only [isLen, h1, h2] at hlen
            cases hlen
          · replace h := h.2
            split at h
            · refine wT_const' (wT_rel (A := fun _ => True) (s' := St.weak st _) ⟨fun _ _ => ⟨rfl, rfl⟩, rfl⟩ (fun _ _ => trivial) (fun v s1 s1' _ _ _ hh => ?_) h)
              unfold wAppendS at hh
              split at hh
              · split at hh
                · exact hh.2.2.2.2
                · exact hh.elim
              · exact hh.elim
            · refine wT_const' (wT_rel (A := fun _ => True) (s' := St.weak st _) ⟨fun _ _ => ⟨rfl, rfl⟩, rfl⟩ (fun _ _ => trivial) (fun v s1 s1' _ _ _ hh => ?_) h.2)
              unfold wAppend at hh
              split at hh
              · split at hh
                · exact hh.2.2.2.2.2
                · exact hh.elim
              · split at hh
                · exact hh.2.2.2.2.2
                · exact hh.elim
              · exact hh.elim
          · refine un_const (un_mono (fun u hu => un_const (un_mono (fun v hv => ?_) hu)) h)
            split at hv
            · exact hv.2
            · exact hv.elim
          · refine un_const (un_mono (fun u hu => un_const (un_mono (fun v hv => ?_) hu)) h)
            split at hv
            · exact hv.2
            · exact hv.elim
          · exact h.elim
      all_goals first | (exact h.elim; done) | (exact absurd rfl hf; done) | (simp [floats] at hf; done)
end
end Go.Proofs.YtkefgpmnimpcdaaGreatDoor.Abs
/- Two operations, of which one only reads, in either order: the exchange. No condition. -/
set_option linter.unusedVariables false
set_option linter.unusedSectionVars false
set_option linter.unusedSimpArgs false
namespace Go.Proofs.YtkefgpmnimpcdaaGreatDoor.Abs
open Go

section
variable {A : Nat → Prop} {P : Program} {fi : FI} [hq : Quiet fi] {m kd : Bool} {gd : Option Bool} {dst : Option Nat} {s s' s0 st st' : St} {ops : List Oper} {o x y : Oper}

theorem mem_reads {t : Nat} : t ∈ reads o ↔ Operand.tmp t ∈ o.op.operands := by
  unfold reads
  rw [List.mem_flatMap]
  constructor
  · rintro ⟨y, hy, ht⟩
    cases y with
    | tmp j => simp only [tmpOf, List.mem_singleton] at ht; subst ht; simpa using hy
    | _ => simp [tmpOf] at ht
  · intro h; exact ⟨.tmp t, by simpa using h, by simp [tmpOf]⟩

theorem fixes_wXs {A : St → Prop} : ∀ {l : List Operand} {G : List AC → St → (AC → St → Prop) → Prop}, (∀ x ∈ l, ∃ v, ∀ st, A st → st.ev x = v) → (∀ us, Fixes A (G us)) →
    Fixes A (fun st k => wXs gd st l (fun us => G us st k)) := by
  intro l
  induction l with
  | nil => intro G _ h; exact h []
  | cons x l ih =>
    intro G hx h
    obtain ⟨v, hv⟩ := hx x List.mem_cons_self
    exact fixes_ev (G := fun u st k => wXs gd st l fun us => G (share u :: us) st k) hv fun u => ih (G := fun us => G (share u :: us)) (fun y hy => hx y (List.mem_cons_of_mem _ hy)) fun us => h _
theorem floatsD_fix {op : Go.Op} (hf : (floats fi dst op || (isLen op).isSome || qOk fi dst op) = true) : Fixes (Agree op s0) (fun st k => wDoD P fi m gd dst op st k) := by
  cases hl : isLen op with
  | none =>
    cases hQ : isQ fi dst op with
    | none =>
      have hf : floats fi dst op = true := by
        have hq : qOk fi dst op = false := by
          cases h : qOk fi dst op with
          | false => rfl
          | true =>
            exfalso
            unfold qOk at h
            split at h
            · rename_i f a ts
              simp only [isQ] at hQ
              unfold qOk at hQ
              simp only [h] at hQ
              cases hQ
            · cases h
        simpa [hl, hq] using hf
      exact (floats_fix (P := P) (m := m) (gd := gd) hf).congr fun st hs k => by simp only [wDoD, hl, hQ]
    | some fr =>
      obtain ⟨f, args, r⟩ := fr
      refine Fixes.congr (W' := fun st k => wQ P gd f args r st k) ?_ fun st hs k => by simp only [wDoD, hl, hQ]
      obtain ⟨⟨a, ts, rfl, rfl⟩, _, _⟩ := isQ_some hQ
      refine fixes_ev (G := fun u st k => match u with
        | .fn g caps => wXs gd st a.toList fun vs => quietK P gd g (vs ++ caps) r ∧ k r st
        | _ => False) (v := s0.ev f) (fun st hs => hs.1 f (by simp [Op.operands, Call.operands])) fun u => ?_
      cases u with
      | fn g caps =>
        exact fixes_wXs (G := fun vs st k => quietK P gd g (vs ++ caps) r ∧ k r st) (fun x hx => ⟨s0.ev x, fun st hs => hs.1 x (by simp [Op.operands, Call.operands]; exact .inr (by simpa using hx))⟩) fun us => fixes_and (fixes_ret r)
      | _ => exact fixes_false
  | some xt =>
    obtain ⟨x, t⟩ := xt
    refine Fixes.congr (W' := fun st k => un gd (st.ev x) fun v => wLenD gd (tdOf P t) v fun v => k v st) ?_ fun st hs k => by simp only [wDoD, hl]
    have hx : x ∈ op.operands := by
      unfold isLen at hl
      split at hl
      · rename_i args ts
        split at hl
        · rename_i y t' r h1 h2
          cases hl
          have : x ∈ args.toList := by rw [h1]; simp
          simp only [Op.operands, Call.operands]
          exact Array.mem_append.2 (.inr (by simpa using this))
        · cases hl
      · cases hl
    refine fixes_ev (G := fun v st k => wLenD gd (tdOf P t) v fun v => k v st) (v := s0.ev x) (fun st hs => hs.1 x hx) fun u => fixes_cps ?_
    unfold wLenD
    split
    · exact ⟨True, _, fun k => by simp; exact Iff.rfl⟩
    · exact ⟨True, _, fun k => by simp; exact Iff.rfl⟩
    · exact ⟨¬ gOk gd, _, fun k => Iff.rfl⟩
    · exact ⟨False, .undef, fun k => by simp⟩

theorem gVal_same {g : Nat} {want : Bool} (h : ∀ d, (ops[g]?).bind (·.dst) = some d → st'.get d = st.get d) : gVal st' ops g want = gVal st ops g want := by
  unfold gVal
  cases hd : (ops[g]?).bind (·.dst) with
  | none => rfl
  | some d => simp only [h d hd]

theorem tlOk_of (hf : floatsD fi o = true) {v : AC} : tlOk P fi o.dst o.op v := by
  intro h
  exfalso
  unfold isTL at h
  split at h
  · rename_i t x e
    unfold floatsD at hf
    rw [e] at hf
    simp only [floats, isLen, qOk, h, Bool.not_true, Option.isSome, Bool.or_self] at hf
    cases hf
  · cases h
/-- An operation that only reads, with its guard. -/
theorem wOpD_fix (hf : floatsD fi o = true) (st : St) : ∃ (Pre : Prop) (av : AC), ∀ st', (∀ t ∈ looks ops o, st'.get t = st.get t) → (loads o.op = true → st'.K = st.K) →
    ∀ k, wOpD P fi kd ops o k st' ↔ (Pre ∧ k (st'.put fi o.dst av)) := by
  have hag : ∀ st', (∀ t ∈ looks ops o, st'.get t = st.get t) → (loads o.op = true → st'.K = st.K) → Agree o.op st st' := fun st' h1 h2 => ⟨fun x hx => by
    cases x with
    | tmp t => exact h1 t (List.mem_append_left _ (mem_reads.2 hx))
    | _ => rfl, h2⟩
  cases hg : o.guard with
  | none =>
    obtain ⟨p, av, h⟩ := floatsD_fix (P := P) (m := true) (gd := none) (s0 := st) hf
    refine ⟨p, av, fun st' h1 h2 k => ?_⟩
    simp only [wOpD, hg]
    refine (h st' (hag st' h1 h2) _).trans ?_
    simp [tlOk_of hf]
  | some gw =>
    obtain ⟨g, want⟩ := gw
    have hgv : ∀ st', (∀ t ∈ looks ops o, st'.get t = st.get t) → gVal st' ops g want = gVal st ops g want := fun st' h1 => gVal_same fun d hd => h1 d (by
      unfold looks; rw [hg]; simp only [hd]; simp)
    cases hv : gVal st ops g want with
    | none =>
      refine ⟨False, .undef, fun st' h1 h2 k => ?_⟩
      simp only [wOpD, hg, hgv st' h1, hv, false_and]
    | some b =>
      obtain ⟨p, av, h⟩ := floatsD_fix (P := P) (m := false) (gd := some b) (s0 := st) hf
      refine ⟨p, .opt b av, fun st' h1 h2 k => ?_⟩
      simp only [wOpD, hg, hgv st' h1, hv]
      refine (h st' (hag st' h1 h2) _).trans ?_
      simp [tlOk_of hf]

theorem wOpD_rel {k k' : St → Prop} (h : Ag A st st') (hO : ∀ t ∈ looks ops o, A t)
    (hk : ∀ v s1 s1', Ag A s1 s1' → Fr o.op.operands.toList st s1 → Fr o.op.operands.toList st' s1' → (calm fi kd o = true → s1.K = st.K) → (floatsD fi o = true → s1 = st ∧ s1' = st') → k (s1.put fi o.dst v) → k' (s1'.put fi o.dst v))
    (hw : wOpD P fi kd ops o k st) : wOpD P fi kd ops o k' st' := by
  by_cases hf : floatsD fi o = true
  · obtain ⟨p, av, hfix⟩ := wOpD_fix (P := P) (kd := kd) (ops := ops) hf st
    have h1 := (hfix st (fun _ _ => rfl) (fun _ => rfl) k).1 hw
    exact (hfix st' (fun t ht => (h.get (hO t ht)).symm) (fun _ => h.2.symm) k').2 ⟨h1.1, hk _ _ _ h Fr.refl Fr.refl (fun _ => rfl) (fun _ => ⟨rfl, rfl⟩) h1.2⟩
  · have hl : isLen o.op = none := by
      cases hl : isLen o.op with
      | none => rfl
      | some _ => exact absurd (by simp [floatsD, hl]) hf
    have hQ : isQ fi o.dst o.op = none := isQ_not (by
      cases h5 : qOk fi o.dst o.op with
      | false => rfl
      | true => exact absurd (by simp [floatsD, h5]) hf)
    have hr : ∀ t, Operand.tmp t ∈ o.op.operands → A t := fun t ht => hO t (List.mem_append_left _ (mem_reads.2 ht))
    have hc : calm fi kd o = true → kd = true ∧ isCall o.op = true := by
      intro hc
      simp only [calm, Bool.or_eq_true, Bool.and_eq_true] at hc
      exact hc.resolve_left hf
    cases hg : o.guard with
    | none =>
      simp only [wOpD, hg, wDoD, hl, hQ] at hw ⊢
      refine wDo_rel h hr (fun v s1 s1' h1 f1 f1' hh => ⟨⟨fun a b => ?_, hh.1.2⟩, hk _ _ _ h1 f1 f1' (fun c => hh.1.1 (hc c).1 (hc c).2) (fun c => absurd c hf) hh.2⟩) hw
      rw [← h1.2, hh.1.1 a b]; exact h.2
    | some gw =>
      obtain ⟨g, want⟩ := gw
      have hgv : gVal st' ops g want = gVal st ops g want := gVal_same fun d hd => (h.get (hO d (by unfold looks; rw [hg]; simp only [hd]; simp))).symm
      simp only [wOpD, hg, hgv] at hw ⊢
      cases hv : gVal st ops g want with
      | none => simp only [hv] at hw
      | some b =>
        simp only [hv, wDoD, hl, hQ] at hw ⊢
        refine wDo_rel h hr (fun v s1 s1' h1 f1 f1' hh => ⟨⟨fun a b => ?_, hh.1.2⟩, hk _ _ _ h1 f1 f1' (fun c => hh.1.1 (hc c).1 (hc c).2) (fun c => absurd c hf) hh.2⟩) hw
        rw [← h1.2, hh.1.1 a b]; exact h.2

theorem wDoD_mono {op : Go.Op} {k k' : AC → St → Prop} (hk : ∀ v s, k v s → k' v s) (h : wDoD P fi m gd dst op st k) (hR : ∀ v s s', Ag (fun _ => True) s s' → k' v s → k' v s') : wDoD P fi m gd dst op st k' := by
  by_cases hf : (floats fi dst op || (isLen op).isSome || qOk fi dst op) = true
  · obtain ⟨p, av, hfix⟩ := floatsD_fix (P := P) (m := m) (gd := gd) (s0 := st) hf
    have := (hfix st ⟨fun x _ => rfl, fun _ => rfl⟩ _).1 h
    exact (hfix st ⟨fun x _ => rfl, fun _ => rfl⟩ _).2 ⟨this.1, hk _ _ this.2⟩
  · have hl : isLen op = none := by
      cases hl : isLen op with
      | none => rfl
      | some _ => exact absurd (by simp [hl]) hf
    have hQ : isQ fi dst op = none := isQ_not (by
      cases h5 : qOk fi dst op with
      | false => rfl
      | true => exact absurd (by simp [h5]) hf)
    simp only [wDoD, hl, hQ] at h ⊢
    exact wDo_rel (A := fun _ => True) ⟨fun _ _ => ⟨rfl, rfl⟩, rfl⟩ (fun _ _ => trivial) (fun _ _ _ hag _ _ hh => hR _ _ _ hag (hk _ _ hh)) h
theorem wOpD_const {c : Prop} (h : wOpD P fi kd ops o (fun _ => c) st) : c := by
  unfold wOpD at h
  split at h
  · exact wDoD_const (c := c) (wDoD_mono (fun v s hh => hh.2) h fun _ _ _ _ hh => hh)
  · split at h
    · exact wDoD_const (c := c) (wDoD_mono (fun v s hh => hh.2) h fun _ _ _ _ hh => hh)
    · exact h.elim

/-- Of no matter in which order the slots stand. -/
def Resp (k : St → Prop) : Prop := ∀ s s', Ag (fun _ => True) s s' → k s → k s'

theorem apart1_spec (h : apart1 fi kd ops x y = true) : floatsD fi x = true ∧ (loads x.op = true → calm fi kd y = true) ∧ (∀ t ∈ looks ops x, floatsD fi y = true ∨ t ∉ reads y) ∧
    (∀ d, x.dst = some d → d ∉ looks ops y ∧ y.dst ≠ some d) ∧ (∀ d, y.dst = some d → d ∉ looks ops x) := by
  simp only [apart1, Bool.and_eq_true] at h
  obtain ⟨⟨⟨⟨h1, h2⟩, h3⟩, h4⟩, h5⟩ := h
  refine ⟨h1, fun hl => by simpa [hl] using h2, fun t ht => ?_, fun d hd => ?_, fun d hd => ?_⟩
  · have := List.all_eq_true.1 h3 t ht
    simpa using this
  · simp only [hd, Bool.and_eq_true, Bool.not_eq_true', bne_iff_ne, ne_eq] at h4
    refine ⟨fun hm => ?_, h4.2⟩
    have := h4.1
    simp [hm] at this
  · simp only [hd] at h5
    intro hm
    simp [hm] at h5

theorem put_env {dst : Option Nat} {v : AC} {t : Nat} : look t (s.put fi dst v).env = if dst = some t ∧ fi.isVar t = true then some v else look t s.env := by
  cases dst with
  | none => rw [if_neg (fun h => by cases h.1)]; rfl
  | some d =>
    show look t (if fi.isVar d then { s with env := setE d v s.env } else { s with loc := setE d v s.loc }).env = _
    by_cases hv : fi.isVar d = true
    · rw [if_pos hv]
      show look t (setE d v s.env) = _
      rw [look_setE']
      by_cases e : t = d
      · subst e; rw [if_pos rfl, if_pos ⟨rfl, hv⟩]
      · rw [if_neg e, if_neg (fun h => e (Option.some.inj h.1).symm)]
    · rw [if_neg hv, if_neg]
      rintro ⟨h1, h2⟩
      cases h1; exact hv h2
theorem put_loc {dst : Option Nat} {v : AC} {t : Nat} : look t (s.put fi dst v).loc = if dst = some t ∧ fi.isVar t = false then some v else look t s.loc := by
  cases dst with
  | none => rw [if_neg (fun h => by cases h.1)]; rfl
  | some d =>
    show look t (if fi.isVar d then { s with env := setE d v s.env } else { s with loc := setE d v s.loc }).loc = _
    by_cases hv : fi.isVar d = true
    · rw [if_pos hv, if_neg]
      rintro ⟨h1, h2⟩
      cases h1; rw [hv] at h2; cases h2
    · rw [if_neg hv]
      show look t (setE d v s.loc) = _
      rw [look_setE']
      by_cases e : t = d
      · subst e; rw [if_pos rfl, if_pos ⟨rfl, by simpa only [Bool.not_eq_true] using hv⟩]
      · rw [if_neg e, if_neg (fun h => e (Option.some.inj h.1).symm)]
theorem put_K {dst : Option Nat} {v : AC} : (s.put fi dst v).K = s.K := by
  unfold St.put; split
  · rfl
  · split <;> rfl
theorem get_of_looks {t : Nat} (h : look t s.env = look t s'.env ∧ look t s.loc = look t s'.loc) : s.get t = s'.get t := by
  unfold St.get; rw [h.1, h.2]
theorem put_get {dst : Option Nat} {v : AC} {t : Nat} (h : dst ≠ some t) : (s.put fi dst v).get t = s.get t :=
  get_of_looks ⟨by rw [put_env, if_neg (fun e => h e.1)], by rw [put_loc, if_neg (fun e => h e.1)]⟩

theorem Ag.put_left {dst : Option Nat} {v : AC} : Ag (fun t => dst ≠ some t) (s.put fi dst v) s :=
  ⟨fun t ht => ⟨by rw [put_env, if_neg (fun e => ht e.1)], by rw [put_loc, if_neg (fun e => ht e.1)]⟩, put_K⟩
theorem Ag.symm (h : Ag A s s') : Ag A s' s := ⟨fun t ht => ⟨(h.1 t ht).1.symm, (h.1 t ht).2.symm⟩, h.2.symm⟩
theorem Ag.refl : Ag A s s := ⟨fun _ _ => ⟨rfl, rfl⟩, rfl⟩

/-- Where the slots of y's operation are as they were. -/
theorem frame_of {s1 : St} {t : Nat} (hr : floatsD fi y = true ∨ t ∉ reads y) (f : Fr y.op.operands.toList st s1) (hfl : floatsD fi y = true → s1 = st) :
    look t s1.env = look t st.env ∧ look t s1.loc = look t st.loc := by
  rcases hr with hr | hr
  · rw [hfl hr]; exact ⟨rfl, rfl⟩
  · exact f t fun e => hr (mem_reads.2 (by simpa using e))

/-- What stands behind both, in either order. -/
theorem both_ag {dx dy : Option Nat} {vx v : AC} {s1 s1' : St} (hne : ∀ d, dx = some d → dy ≠ some d) (hag : Ag (fun t => dx ≠ some t) s1 s1')
    (f : ∀ d, dx = some d → look d s1.env = look d (st.put fi dx vx).env ∧ look d s1.loc = look d (st.put fi dx vx).loc) (f' : ∀ d, dx = some d → look d s1'.env = look d st.env ∧ look d s1'.loc = look d st.loc) :
    Ag (fun _ => True) (s1.put fi dy v) ((s1'.put fi dy v).put fi dx vx) := by
  refine ⟨fun t _ => ?_, by rw [put_K, put_K, put_K]; exact hag.2⟩
  by_cases e : dx = some t
  · have hn := hne t e
    obtain ⟨a, b⟩ := f t e
    obtain ⟨c, d⟩ := f' t e
    have l1 : look t (s1.put fi dy v).env = look t s1.env := by rw [put_env, if_neg (fun h => hn h.1)]
    have l2 : look t (s1.put fi dy v).loc = look t s1.loc := by rw [put_loc, if_neg (fun h => hn h.1)]
    have l3 : look t (s1'.put fi dy v).env = look t s1'.env := by rw [put_env, if_neg (fun h => hn h.1)]
    have l4 : look t (s1'.put fi dy v).loc = look t s1'.loc := by rw [put_loc, if_neg (fun h => hn h.1)]
    constructor
    · rw [l1, a, put_env, put_env (s := s1'.put fi dy v), l3, c]
    · rw [l2, b, put_loc, put_loc (s := s1'.put fi dy v), l4, d]
  · obtain ⟨a, b⟩ := hag.1 t e
    constructor
    · rw [put_env, put_env (s := s1'.put fi dy v), if_neg (c := dx = some t ∧ _) (fun h => e h.1), put_env, a]
    · rw [put_loc, put_loc (s := s1'.put fi dy v), if_neg (c := dx = some t ∧ _) (fun h => e h.1), put_loc, b]

theorem swapA {k : St → Prop} (hsw : apart1 fi kd ops x y = true) (hR : Resp k) (h : wOpD P fi kd ops x (wOpD P fi kd ops y k) st) : wOpD P fi kd ops y (wOpD P fi kd ops x k) st := by
  obtain ⟨hf, hK, hl, hdx, hdy⟩ := apart1_spec hsw
  obtain ⟨p, vx, hx⟩ := wOpD_fix (P := P) (kd := kd) (ops := ops) hf st
  have h1 := (hx st (fun _ _ => rfl) (fun _ => rfl) _).1 h
  refine wOpD_rel (A := fun t => x.dst ≠ some t) (k := k) (st := st.put fi x.dst vx) Ag.put_left (fun t ht e => (hdx t e).1 ht) (fun v s1 s1' hag f f' hc hfl hh => ?_) h1.2
  refine (hx (s1'.put fi y.dst v) (fun t ht => ?_) (fun hlo => ?_) k).2 ⟨h1.1, hR (s1.put fi y.dst v) _ ?_ hh⟩
  · rw [put_get (fun e => hdy t e ht)]
    exact get_of_looks (frame_of (hl t ht) f' fun c => (hfl c).2)
  · rw [put_K, ← hag.2, hc (hK hlo), put_K]
  · exact both_ag (fun d hd => (hdx d hd).2) hag (fun d hd => frame_of (.inr fun hm => (hdx d hd).1 (List.mem_append_left _ hm)) f fun c => (hfl c).1)
      (fun d hd => frame_of (.inr fun hm => (hdx d hd).1 (List.mem_append_left _ hm)) f' fun c => (hfl c).2)

theorem swapB {k : St → Prop} (hsw : apart1 fi kd ops y x = true) (hR : Resp k) (h : wOpD P fi kd ops x (wOpD P fi kd ops y k) st) : wOpD P fi kd ops y (wOpD P fi kd ops x k) st := by
  obtain ⟨hf, hK, hl, hdy, hdx⟩ := apart1_spec hsw
  obtain ⟨p, vy, hy⟩ := wOpD_fix (P := P) (kd := kd) (ops := ops) hf st
  have agree : ∀ (v : AC) (s1 : St), Fr x.op.operands.toList st s1 → (floatsD fi x = true → s1 = st) → ∀ t ∈ looks ops y, (s1.put fi x.dst v).get t = st.get t := by
    intro v s1 f hfl t ht
    rw [put_get (fun e => hdx t e ht)]
    exact get_of_looks (frame_of (hl t ht) f hfl)
  have hp : p := wOpD_const (c := p) (wOpD_rel (A := fun _ => True) (st' := st) (k' := fun _ => p) Ag.refl (fun _ _ => trivial) (fun v s1 s1' hag f f' hc hfl hh =>
    ((hy (s1.put fi x.dst v) (agree v s1 f fun c => (hfl c).1) (fun hlo => by rw [put_K, hc (hK hlo)]) k).1 hh).1) h)
  refine (hy st (fun _ _ => rfl) (fun _ => rfl) _).2 ⟨hp, ?_⟩
  refine wOpD_rel (A := fun t => y.dst ≠ some t) (st := st) (k := fun s => wOpD P fi kd ops y k s) Ag.put_left.symm (fun t ht e => (hdy t e).1 ht) (fun v s1 s1' hag f f' hc hfl hh => ?_) h
  have h2 := ((hy (s1.put fi x.dst v) (agree v s1 f fun c => (hfl c).1) (fun hlo => by rw [put_K, hc (hK hlo)]) k).1 hh).2
  refine hR _ _ (Ag.symm ?_) h2
  exact both_ag (fun d hd => (hdy d hd).2) hag.symm (fun d hd => frame_of (.inr fun hm => (hdy d hd).1 (List.mem_append_left _ hm)) f' fun c => (hfl c).2)
      (fun d hd => frame_of (.inr fun hm => (hdy d hd).1 (List.mem_append_left _ hm)) f fun c => (hfl c).1)
end
end Go.Proofs.YtkefgpmnimpcdaaGreatDoor.Abs
/- Regions that draw their order. No condition. -/
set_option linter.unusedVariables false
set_option linter.unusedSectionVars false
set_option linter.unusedSimpArgs false
namespace Go.Proofs.YtkefgpmnimpcdaaGreatDoor.Abs
open Go

section
variable {A : Nat → Prop} {P : Program} {fi : FI} [hq : Quiet fi] {m kd : Bool} {gd : Option Bool} {dst : Option Nat} {s s' s0 st st' : St} {ops : List Oper} {o x y : Oper}

theorem Ag.put {v : AC} (h : Ag A s s') : Ag A (s.put fi dst v) (s'.put fi dst v) :=
  ⟨fun t ht => ⟨by rw [put_env, put_env, (h.1 t ht).1], by rw [put_loc, put_loc, (h.1 t ht).2]⟩, by rw [put_K, put_K]; exact h.2⟩
/-- A change of some slots alone. -/
structure Loc (X : Nat → Prop) (T : St → St) : Prop where
  out : ∀ s t, ¬ X t → look t (T s).env = look t s.env ∧ look t (T s).loc = look t s.loc
  inn : ∀ s s', (∀ t, X t → look t s.env = look t s'.env ∧ look t s.loc = look t s'.loc) → ∀ t, X t → look t (T s).env = look t (T s').env ∧ look t (T s).loc = look t (T s').loc
  K : ∀ s, (T s).K = s.K
theorem Loc.id {X : Nat → Prop} : Loc X (fun s => s) := ⟨fun _ _ _ => ⟨rfl, rfl⟩, fun _ _ h => h, fun _ => rfl⟩
theorem Loc.mono {X Y : Nat → Prop} {T : St → St} (h : Loc X T) (hs : ∀ t, X t → Y t) : Loc Y T :=
  ⟨fun s t ht => h.out s t (fun hx => ht (hs t hx)), fun s s' hag t ht => by
    by_cases hx : X t
    · exact h.inn s s' (fun t ht => hag t (hs t ht)) t hx
    · rw [(h.out s t hx).1, (h.out s t hx).2, (h.out s' t hx).1, (h.out s' t hx).2]; exact hag t ht, h.K⟩
theorem Loc.comp {X : Nat → Prop} {T U : St → St} (h : Loc X T) (g : Loc X U) : Loc X (fun s => U (T s)) :=
  ⟨fun s t ht => ⟨(g.out _ t ht).1.trans (h.out s t ht).1, (g.out _ t ht).2.trans (h.out s t ht).2⟩, fun s s' hag t ht => g.inn _ _ (h.inn s s' hag) t ht, fun s => (g.K _).trans (h.K s)⟩
theorem weak_env {t j : Nat} : look j (s.weak t).env = if j = t ∧ look t s.loc = none then (look t s.env).map share else look j s.env := by
  unfold St.weak
  split
  · rename_i v e; rw [if_neg (by rw [e]; simp)]
  · rename_i e
    split
    · rename_i v e2
      simp only [look_setE', e, e2]
      by_cases h : j = t
      · simp [h]
      · simp [h]
    · rename_i e2
      by_cases h : j = t
      · subst h; simp [e, e2]
      · simp [h]
theorem weak_loc {t j : Nat} : look j (s.weak t).loc = if j = t then (look t s.loc).map share else look j s.loc := by
  unfold St.weak
  split
  · rename_i v e; simp only [look_setE', e]; by_cases h : j = t <;> simp [h]
  · rename_i e
    split
    · by_cases h : j = t
      · subst h; simp [e]
      · simp [h]
    · by_cases h : j = t
      · subst h; simp [e]
      · simp [h]
theorem Loc.weak {t : Nat} : Loc (fun j => j = t) (fun s => s.weak t) :=
  ⟨fun s j hj => ⟨by rw [weak_env, if_neg (fun h => hj h.1)], by rw [weak_loc, if_neg hj]⟩, fun s s' hag j hj => by
    subst hj
    obtain ⟨h1, h2⟩ := hag j rfl
    simp only [weak_env, weak_loc, h1, h2, and_self], fun s => St.weak_K⟩
theorem Loc.put {dst : Option Nat} {v : AC} : Loc (fun j => dst = some j) (fun s => s.put fi dst v) :=
  ⟨fun s j hj => ⟨by rw [put_env, if_neg (fun h => hj h.1)], by rw [put_loc, if_neg (fun h => hj h.1)]⟩, fun s s' hag j hj => by
    obtain ⟨h1, h2⟩ := hag j hj
    rw [put_env, put_loc, put_env, put_loc, h1, h2]; exact ⟨rfl, rfl⟩, fun s => put_K⟩
theorem wT_det (x : Operand) (st : St) : ∃ (Pre : Prop) (v : AC) (T : St → St), Loc (fun t => x = .tmp t) T ∧ ∀ st', (∀ t, x = .tmp t → st'.get t = st.get t) → ∀ k, wT fi m none st' x k ↔ (Pre ∧ k v (T st')) := by
  cases x with
  | tmp t =>
    have key : ∀ z : AC, ∃ (Pre : Prop) (v : AC) (T : St → St), Loc (fun j => Operand.tmp t = .tmp j) T ∧ ∀ (st' : St) (k : AC → St → Prop), (un none z fun v => if m && fi.tk.elem t then k v (st'.weak t) else k (Abs.share v) st') ↔ (Pre ∧ k v (T st')) := by
      intro z
      by_cases hc : (m && fi.tk.elem t) = true
      · have hl : Loc (fun j => Operand.tmp t = .tmp j) (fun s => s.weak t) := Loc.weak.mono (by rintro j rfl; rfl)
        simp only [hc, if_true]
        cases z with
        | opt g v => exact ⟨gOk none → g = true, v, _, hl, fun st' k => Iff.rfl⟩
        | nam y v => exact ⟨True, v, _, hl, fun st' k => by simp⟩
        | _ => exact ⟨True, _, _, hl, fun st' k => by rw [true_and] <;> exact Iff.rfl⟩
      · simp only [hc, if_false]
        cases z with
        | opt g v => exact ⟨gOk none → g = true, Abs.share v, _, Loc.id, fun st' k => Iff.rfl⟩
        | nam y v => exact ⟨True, Abs.share v, _, Loc.id, fun st' k => by simp⟩
        | _ => exact ⟨True, _, _, Loc.id, fun st' k => by rw [true_and] <;> exact Iff.rfl⟩
    obtain ⟨Pre, v, T, hl, h⟩ := key (st.get t)
    exact ⟨Pre, v, T, hl, fun st' hs k => by show (un none (st'.get t) _) ↔ _; rw [hs t rfl]; exact h st' k⟩
  | const c => exact ⟨True, ofV c, _, Loc.id, fun st' _ k => by rw [true_and] <;> exact Iff.rfl⟩
  | func f => exact ⟨True, .fn f [], _, Loc.id, fun st' _ k => by rw [true_and] <;> exact Iff.rfl⟩
  | global g => exact ⟨True, .undef, _, Loc.id, fun st' _ k => by rw [true_and] <;> exact Iff.rfl⟩
theorem wTs_det : ∀ (l : List Operand) (st : St), ∃ (Pre : Prop) (vs : List AC) (T : St → St), Loc (fun t => Operand.tmp t ∈ l) T ∧
    ∀ st', (∀ t, Operand.tmp t ∈ l → look t st'.env = look t st.env ∧ look t st'.loc = look t st.loc) → ∀ k, wTs fi m none l st' k ↔ (Pre ∧ k vs (T st')) := by
  intro l
  induction l with
  | nil => intro st; exact ⟨True, [], _, Loc.id, fun st' _ k => by rw [true_and] <;> exact Iff.rfl⟩
  | cons x l ih =>
    intro st
    obtain ⟨P1, v1, T1, L1, h1⟩ := wT_det (fi := fi) (m := m) x st
    obtain ⟨P2, v2, T2, L2, h2⟩ := ih (T1 st)
    refine ⟨P1 ∧ P2, v1 :: v2, _, (L1.mono (Y := fun t => Operand.tmp t ∈ x :: l) (by rintro t rfl; exact List.mem_cons_self)).comp (L2.mono (fun t ht => List.mem_cons_of_mem _ ht)), fun st' hs k => ?_⟩
    show wT fi m none st' x (fun v s => wTs fi m none l s fun vs s => k (v :: vs) s) ↔ _
    rw [h1 st' (fun t e => get_of_looks (hs t (by rw [e]; exact List.mem_cons_self))), h2 (T1 st') (fun t ht => ?_), and_assoc]
    by_cases e : x = .tmp t
    · exact L1.inn st' st (fun t e => hs t (by rw [e]; exact List.mem_cons_self)) t e
    · rw [(L1.out st' t e).1, (L1.out st' t e).2, (L1.out st t e).1, (L1.out st t e).2]; exact hs t (List.mem_cons_of_mem _ ht)
theorem slot_det {op : Go.Op} (hs : slotOp op = true) (st : St) : ∃ (Pre : Prop) (av : AC) (T : St → St), Loc (fun t => Operand.tmp t ∈ op.operands.toList) T ∧
    ∀ st', (∀ t, Operand.tmp t ∈ op.operands.toList → look t st'.env = look t st.env ∧ look t st'.loc = look t st.loc) → ∀ k, wDo P fi true none dst op st' k ↔ (Pre ∧ k av (T st')) := by
  unfold slotOp at hs
  split at hs
  · rename_i x
    cases x with
    | tmp t =>
      have key : ∀ z : AC, ∃ (Pre : Prop) (v : AC) (T : St → St), Loc (fun j => Operand.tmp t = .tmp j) T ∧ ∀ (st' : St) (k : AC → St → Prop), (if (true && fi.takes dst) = true then un none z fun v => k v (st'.weak t) else match z with
          | .nam y v => if isX v then k (.als t none y (lenOf v)) st' else k (Abs.share v) st'
          | v => un none v fun v => k (Abs.share v) st') ↔ (Pre ∧ k v (T st')) := by
        intro z
        by_cases hc : (true && fi.takes dst) = true
        · have hl : Loc (fun j => Operand.tmp t = .tmp j) (fun s => s.weak t) := Loc.weak.mono (by rintro j rfl; rfl)
          simp only [hc, if_true]
          cases z with
          | opt g v => exact ⟨gOk none → g = true, v, _, hl, fun st' k => Iff.rfl⟩
          | nam y v => exact ⟨True, v, _, hl, fun st' k => by simp⟩
          | _ => exact ⟨True, _, _, hl, fun st' k => by rw [true_and] <;> exact Iff.rfl⟩
        · simp only [hc, if_false]
          cases z with
          | opt g v => exact ⟨gOk none → g = true, Abs.share v, _, Loc.id, fun st' k => Iff.rfl⟩
          | nam y v =>
            by_cases hX : isX v = true
            · exact ⟨True, .als t none y (lenOf v), _, Loc.id, fun st' k => by simp only [hX, if_true, true_and, Bool.false_eq_true, if_false]⟩
            · exact ⟨True, Abs.share v, _, Loc.id, fun st' k => by simp only [hX, if_false, true_and, Bool.false_eq_true]⟩
          | _ => exact ⟨True, _, _, Loc.id, fun st' k => by rw [true_and] <;> exact Iff.rfl⟩
      obtain ⟨Pre, v, T, hl, h⟩ := key (st.get t)
      refine ⟨Pre, v, T, hl.mono (by rintro j e; simp [Op.operands, e]), fun st' hs k => ?_⟩
      show wD_move P fi true none dst (.tmp t) st' k ↔ _
      simp only [wD_move]
      rw [get_of_looks (hs t (by simp [Op.operands]))]
      exact h st' k
    | const c => exact ⟨True, ofV c, _, Loc.id, fun st' _ k => by rw [true_and] <;> exact Iff.rfl⟩
    | func f => exact ⟨True, .fn f [], _, Loc.id, fun st' _ k => by rw [true_and] <;> exact Iff.rfl⟩
    | global g => exact ⟨True, .undef, _, Loc.id, fun st' _ k => by rw [true_and] <;> exact Iff.rfl⟩
  · rename_i x
    obtain ⟨P1, v1, T1, L1, h1⟩ := wT_det (fi := fi) (m := true) x st
    exact ⟨P1, v1, T1, L1.mono (by rintro t rfl; simp [Op.operands]), fun st' hs k => h1 st' (fun t e => get_of_looks (hs t (by simp [Op.operands, e]))) k⟩
  · rename_i t ps
    obtain ⟨P1, v1, T1, L1, h1⟩ := wTs_det (fi := fi) (m := true) (ps.toList.map (·.2)) st
    have hc : ∃ (p : Prop) (v : AC), ∀ κ : AC → Prop, (match tdOf P t, zeroOf P t with
      | .struct fs, some zs => (fs.all fun f => decide (0 < f.2.1)) = true ∧ (zs.all storable) = true ∧ match fillC (fun i => (fs[i]?).map fun f => (f.1, f.2.1)) zs ((ps.toList.map (·.1)).zip v1) with
        | some cs => κ (.agg cs)
        | none => False
      | _, _ => False) ↔ (p ∧ κ v) := by
      split
      · split
        · exact ⟨_, _, fun κ => and_assoc.symm⟩
        · exact ⟨False, .undef, fun κ => by simp⟩
      · exact ⟨False, .undef, fun κ => by simp⟩
    obtain ⟨p, v, hc⟩ := hc
    refine ⟨P1 ∧ p, v, T1, L1.mono (by intro j hj; simpa [Op.operands] using hj), fun st' hs k => ?_⟩
    refine (h1 st' (fun t ht => hs t (by simpa [Op.operands] using ht)) _).trans ?_
    rw [and_assoc]
    exact and_congr_right fun _ => hc fun v => k v (T1 st')
  · rename_i t n ps
    obtain ⟨P1, v1, T1, L1, h1⟩ := wTs_det (fi := fi) (m := true) (ps.toList.map (·.2)) st
    have hc : ∃ (p : Prop) (v : AC), ∀ κ : AC → Prop, (match tdOf P t with
      | .slice e => 0 < P.cellsOf e ∧ n * P.cellsOf e ≤ 16777216 ∧ match zeroOf P e with
        | some zs => (zs.all storable) = true ∧ zs.length = P.cellsOf e ∧ match fillC (fun i => some (i * P.cellsOf e, P.cellsOf e)) (List.replicate n zs).flatten ((ps.toList.map (·.1)).zip v1) with
          | some cs => (cs.all Abs.flat) = true ∧ κ (.sl (if fi.keeps dst then .ex e else .of e) n cs)
          | none => False
        | none => False
      | _ => False) ↔ (p ∧ κ v) := by
      split
      · split
        · split
          · exact ⟨_ ∧ _ ∧ _ ∧ _ ∧ _, _, fun κ => by simp only [and_assoc]; exact Iff.rfl⟩
          · exact ⟨False, .undef, fun κ => by simp⟩
        · exact ⟨False, .undef, fun κ => by simp⟩
      · exact ⟨False, .undef, fun κ => by simp⟩
    obtain ⟨p, v, hc⟩ := hc
    refine ⟨P1 ∧ p, v, T1, L1.mono (by intro j hj; simpa [Op.operands] using hj), fun st' hs k => ?_⟩
    refine (h1 st' (fun t ht => hs t (by simpa [Op.operands] using ht)) _).trans ?_
    rw [and_assoc]
    exact and_congr_right fun _ => hc fun v => k v (T1 st')
  · rename_i args ts
    have hops : ∀ y, y ∈ args.toList → y ∈ (Op.call ⟨.builtin .append, args, ts⟩).operands.toList := by
      intro y hy; simp [Op.operands, Call.operands]; simpa using hy
    show ∃ (Pre : Prop) (av : AC) (T : St → St), _ ∧ ∀ st', _ → ∀ k, wBuiltin P fi true (fi.keeps dst) none .append args.toList ts.toList st' k ↔ _
    generalize args.toList = al at hops ⊢
    generalize ts.toList = tl
    by_cases hsh : ∃ q x t1 t2, al = [.tmp q, x] ∧ tl = [t1, t2]
    · obtain ⟨q, x, t1, t2, rfl, rfl⟩ := hsh
      have hq1 := hops (.tmp q) (by simp)
      have hx1 : ∀ j, x = .tmp j → Operand.tmp j ∈ (Op.call ⟨.builtin .append, args, ts⟩).operands.toList := fun j e => hops _ (by simp [e])
      have L0 : Loc (fun t => Operand.tmp t ∈ (Op.call ⟨.builtin .append, args, ts⟩).operands.toList) (fun s => s.weak q) := Loc.weak.mono (by rintro j rfl; exact hq1)
      obtain ⟨P1, v1, T1, L1, h1⟩ := wT_det (fi := fi) (m := true) x (st.weak q)
      by_cases hstr : tdOf P t2 = .str
      · have hc : ∃ (p : Prop) (v : AC), ∀ κ : AC → Prop, wAppendS P (fi.keeps dst) (tdOf P t1) (st.get q) v1 κ ↔ (p ∧ κ v) := by
          unfold wAppendS
          split
          · split
            · exact ⟨_ ∧ _ ∧ _ ∧ _, _, fun κ => by simp only [and_assoc]; exact Iff.rfl⟩
            · exact ⟨False, .undef, fun κ => by simp⟩
          · exact ⟨False, .undef, fun κ => by simp⟩
        obtain ⟨p, v, hc⟩ := hc
        refine ⟨P1 ∧ p, v, _, L0.comp (L1.mono fun t ht => hx1 t ht), fun st' hs k => ?_⟩
        have hg := get_of_looks (s := st') (s' := st) (hs q hq1)
        have hsh : wBuiltin P fi true (fi.keeps dst) none .append [.tmp q, x] [t1, t2] st' k ↔ (wT fi true none (st'.weak q) x fun v st'' => wAppendS P (fi.keeps dst) (tdOf P t1) (st'.get q) v fun v => k v st'') := by
          show (true = true ∧ match tdOf P t2 with
            | .str => wT fi true none (st'.weak q) x fun v st'' => wAppendS P (fi.keeps dst) (tdOf P t1) (st'.get q) v fun v => k v st''
            | _ => t1 = t2 ∧ wT fi true none (st'.weak q) x fun v st'' => wAppend P (fi.keeps dst) (tdOf P t1) (st'.get q) v fun v => k v st'') ↔ _
          rw [hstr]; exact and_iff_right rfl
        rw [hsh, hg]
        refine Iff.trans ((h1 (st'.weak q) (fun t e => get_of_looks (L0.inn st' st hs t (hx1 t e))) _).trans (and_congr_right fun _ => hc fun v => k v (T1 (st'.weak q)))) ?_
        simp [and_assoc]
      have hc : ∃ (p : Prop) (v : AC), ∀ κ : AC → Prop, wAppend P (fi.keeps dst) (tdOf P t1) (st.get q) v1 κ ↔ (p ∧ κ v) := by
        unfold wAppend
        split
        · split
          · exact ⟨_ ∧ _ ∧ _ ∧ _ ∧ _, _, fun κ => by simp only [and_assoc]; exact Iff.rfl⟩
          · exact ⟨False, .undef, fun κ => by simp⟩
        · split
          · exact ⟨_ ∧ _ ∧ _ ∧ _ ∧ _, _, fun κ => by simp only [and_assoc]; exact Iff.rfl⟩
          · exact ⟨False, .undef, fun κ => by simp⟩
        · exact ⟨False, .undef, fun κ => by simp⟩
      obtain ⟨p, v, hc⟩ := hc
      refine ⟨t1 = t2 ∧ P1 ∧ p, v, _, L0.comp (L1.mono fun t ht => hx1 t ht), fun st' hs k => ?_⟩
      have hg := get_of_looks (s := st') (s' := st) (hs q hq1)
      have hsh : wBuiltin P fi true (fi.keeps dst) none .append [.tmp q, x] [t1, t2] st' k ↔ (t1 = t2 ∧ wT fi true none (st'.weak q) x fun v st'' => wAppend P (fi.keeps dst) (tdOf P t1) (st'.get q) v fun v => k v st'') := by
        show (true = true ∧ match tdOf P t2 with
          | .str => wT fi true none (st'.weak q) x fun v st'' => wAppendS P (fi.keeps dst) (tdOf P t1) (st'.get q) v fun v => k v st''
          | _ => t1 = t2 ∧ wT fi true none (st'.weak q) x fun v st'' => wAppend P (fi.keeps dst) (tdOf P t1) (st'.get q) v fun v => k v st'') ↔ _
        split
        · rename_i e; exact absurd e hstr
        · exact and_iff_right rfl
      rw [hsh, hg]
      refine Iff.trans (and_congr_right fun _ => (h1 (st'.weak q) (fun t e => get_of_looks (L0.inn st' st hs t (hx1 t e))) _).trans (and_congr_right fun _ => hc fun v => k v (T1 (st'.weak q)))) ?_
      simp [and_assoc]
    · have hF : ∀ st' k, wBuiltin P fi true (fi.keeps dst) none .append al tl st' k ↔ False := by
        intro st' k
        refine ⟨fun hw => ?_, False.elim⟩
        match al, tl, hw, hsh with
        | [.tmp q, x], [t1, t2], _, hsh => exact hsh ⟨q, x, t1, t2, rfl, rfl⟩
        | [], _, hw, _ => exact hw
        | [h], _, hw, _ => cases h <;> exact hw
        | h :: _ :: _ :: _, _, hw, _ => cases h <;> exact hw
        | [.const c, x], _, hw, _ => exact hw
        | [.func c, x], _, hw, _ => exact hw
        | [.global c, x], _, hw, _ => exact hw
        | [.tmp q, x], [], hw, _ => exact hw
        | [.tmp q, x], [_], hw, _ => exact hw
        | [.tmp q, x], _ :: _ :: _ :: _, hw, _ => exact hw
      exact ⟨False, .undef, _, Loc.id, fun st' _ k => by rw [hF]; simp⟩
  · cases hs
theorem slot_op {x : Oper} (hs : slotOp x.op = true) (hg : x.guard = none) (st : St) : ∃ (Pre : Prop) (T : St → St), Loc (fun t => t ∈ looks ops x ∨ x.dst = some t) T ∧
    ∀ st', (∀ t, t ∈ looks ops x ∨ x.dst = some t → look t st'.env = look t st.env ∧ look t st'.loc = look t st.loc) → ∀ k, wOpD P fi kd ops x k st' ↔ (Pre ∧ k (T st')) := by
  obtain ⟨Pre, av, T, L, h⟩ := slot_det (P := P) (fi := fi) (dst := x.dst) hs st
  have hsub : ∀ t, Operand.tmp t ∈ x.op.operands.toList → t ∈ looks ops x := fun t ht => List.mem_append_left _ (mem_reads.2 (by simpa using ht))
  refine ⟨Pre, _, (L.mono (Y := fun t => t ∈ looks ops x ∨ x.dst = some t) fun t ht => .inl (hsub t ht)).comp ((Loc.put (fi := fi) (v := av)).mono fun t ht => .inr ht), fun st' hst k => ?_⟩
  have e1 : wDoD P fi true none x.dst x.op = wDo P fi true none x.dst x.op := by
    funext st k
    unfold slotOp at hs
    split at hs
    · rename_i e; rw [e]; rfl
    · rename_i e; rw [e]; rfl
    · rename_i e; rw [e]; rfl
    · rename_i e; rw [e]; rfl
    · rename_i e; rw [e]; rfl
    · cases hs
  have e2 : isTL fi x.dst x.op = false := by
    unfold slotOp at hs
    split at hs
    · rename_i e; rw [e]; rfl
    · rename_i e; rw [e]; rfl
    · rename_i e; rw [e]; rfl
    · rename_i e; rw [e]; rfl
    · rename_i e; rw [e]; rfl
    · cases hs
  simp only [wOpD, hg]
  rw [e1]
  refine (h st' (fun t ht => hst t (.inl (hsub t ht))) _).trans ?_
  simp [tlOk, e2, L.K]
theorem apartD_spec {x y : Oper} (h : apartD ops x y = true) : slotOp x.op = true ∧ x.guard = none ∧ ∀ t, t ∈ looks ops x ∨ x.dst = some t → t ∉ looks ops y ∧ y.dst ≠ some t := by
  simp only [apartD, Bool.and_eq_true] at h
  obtain ⟨⟨⟨h1, h2⟩, h3⟩, h4⟩ := h
  refine ⟨h1, by simpa using h2, fun t ht => ?_⟩
  rcases ht with ht | ht
  · have := List.all_eq_true.1 h3 t ht
    simp only [Bool.and_eq_true, Bool.not_eq_true', bne_iff_ne, ne_eq] at this
    exact ⟨fun hm => by have := this.1; simp [hm] at this, this.2⟩
  · rw [ht] at h4
    simp only [Bool.and_eq_true, Bool.not_eq_true', bne_iff_ne, ne_eq] at h4
    exact ⟨fun hm => by have := h4.1; simp [hm] at this, h4.2⟩
theorem swapD1 {k : St → Prop} (hd : apartD ops x y = true) (hR : Resp k) (h : wOpD P fi kd ops x (wOpD P fi kd ops y k) st) : wOpD P fi kd ops y (wOpD P fi kd ops x k) st := by
  obtain ⟨hs, hg, hdis⟩ := apartD_spec hd
  obtain ⟨Pre, T, hL, hx⟩ := slot_op (P := P) (fi := fi) (kd := kd) (ops := ops) hs hg st
  obtain ⟨hp, h1⟩ := (hx st (fun _ _ => ⟨rfl, rfl⟩) _).1 h
  have hno : ∀ t, t ∈ looks ops x ∨ x.dst = some t → Operand.tmp t ∉ y.op.operands.toList := fun t ht hm => (hdis t ht).1 (List.mem_append_left _ (mem_reads.2 (by simpa using hm)))
  refine wOpD_rel (A := fun t => ¬ (t ∈ looks ops x ∨ x.dst = some t)) (k := k) (st := T st) (st' := st) ⟨fun t ht => hL.out st t ht, hL.K st⟩ (fun t ht hX => (hdis t hX).1 ht) (fun v s1 s1' hag f f' hc hfl hh => ?_) h1
  have e1 : ∀ t, t ∈ looks ops x ∨ x.dst = some t → look t (s1'.put fi y.dst v).env = look t st.env ∧ look t (s1'.put fi y.dst v).loc = look t st.loc := fun t ht => by
    rw [put_env, put_loc, if_neg (fun e => (hdis t ht).2 e.1), if_neg (fun e => (hdis t ht).2 e.1)]; exact f' t (hno t ht)
  refine (hx _ e1 k).2 ⟨hp, hR (s1.put fi y.dst v) _ ⟨fun t _ => ?_, by rw [put_K, hL.K, put_K]; exact hag.2⟩ hh⟩
  by_cases hX : t ∈ looks ops x ∨ x.dst = some t
  · have a := f t (hno t hX)
    have b := hL.inn (s1'.put fi y.dst v) st e1 t hX
    rw [put_env, put_loc, if_neg (fun e => (hdis t hX).2 e.1), if_neg (fun e => (hdis t hX).2 e.1), a.1, a.2, b.1, b.2]; exact ⟨rfl, rfl⟩
  · have a := hL.out (s1'.put fi y.dst v) t hX
    have b := hag.1 t hX
    rw [a.1, a.2, put_env, put_loc, put_env, put_loc, b.1, b.2]; exact ⟨rfl, rfl⟩
theorem swapD2 {k : St → Prop} (hd : apartD ops y x = true) (hR : Resp k) (h : wOpD P fi kd ops x (wOpD P fi kd ops y k) st) : wOpD P fi kd ops y (wOpD P fi kd ops x k) st := by
  obtain ⟨hs, hg, hdis⟩ := apartD_spec hd
  obtain ⟨Pre, T, hL, hy⟩ := slot_op (P := P) (fi := fi) (kd := kd) (ops := ops) hs hg st
  have hno : ∀ t, t ∈ looks ops y ∨ y.dst = some t → Operand.tmp t ∉ x.op.operands.toList := fun t ht hm => (hdis t ht).1 (List.mem_append_left _ (mem_reads.2 (by simpa using hm)))
  have e1 : ∀ (v : AC) (s1 : St), Fr x.op.operands.toList st s1 → ∀ t, t ∈ looks ops y ∨ y.dst = some t → look t (s1.put fi x.dst v).env = look t st.env ∧ look t (s1.put fi x.dst v).loc = look t st.loc := fun v s1 f t ht => by
    rw [put_env, put_loc, if_neg (fun e => (hdis t ht).2 e.1), if_neg (fun e => (hdis t ht).2 e.1)]; exact f t (hno t ht)
  have hp : Pre := wOpD_const (c := Pre) (wOpD_rel (A := fun _ => True) (st' := st) (k' := fun _ => Pre) Ag.refl (fun _ _ => trivial) (fun v s1 s1' hag f f' hc hfl hh =>
    ((hy (s1.put fi x.dst v) (e1 v s1 f) k).1 hh).1) h)
  refine (hy st (fun _ _ => ⟨rfl, rfl⟩) _).2 ⟨hp, ?_⟩
  refine wOpD_rel (A := fun t => ¬ (t ∈ looks ops y ∨ y.dst = some t)) (st := st) (st' := T st) (k := fun s => wOpD P fi kd ops y k s) ⟨fun t ht => ⟨(hL.out st t ht).1.symm, (hL.out st t ht).2.symm⟩, (hL.K st).symm⟩ (fun t ht hX => (hdis t hX).1 ht)
    (fun v s1 s1' hag f f' hc hfl hh => ?_) h
  have h2 := ((hy (s1.put fi x.dst v) (e1 v s1 f) k).1 hh).2
  refine hR _ _ ⟨fun t _ => ?_, by rw [put_K, hL.K, put_K]; exact hag.2⟩ h2
  by_cases hX : t ∈ looks ops y ∨ y.dst = some t
  · have a := f' t (hno t hX)
    have b := hL.inn (s1.put fi x.dst v) st (e1 v s1 f) t hX
    rw [b.1, b.2, put_env, put_loc, if_neg (fun e => (hdis t hX).2 e.1), if_neg (fun e => (hdis t hX).2 e.1), a.1, a.2]; exact ⟨rfl, rfl⟩
  · have a := hL.out (s1.put fi x.dst v) t hX
    have b := hag.1 t hX
    rw [a.1, a.2, put_env, put_loc, put_env, put_loc, b.1, b.2]; exact ⟨rfl, rfl⟩
theorem getBox_push {f : List (List AC)} {K : List (List (List AC))} {u i : Nat} {c cs : List AC} (h : getBox (f :: K) u i = some c) : getBox ((f ++ [cs]) :: K) u i = some c := by
  cases u with
  | zero =>
    simp only [getBox, List.getElem?_cons_zero, Option.bind_some] at h ⊢
    rw [List.getElem?_append_left (List.getElem?_eq_some_iff.1 h).1]; exact h
  | succ u => simpa only [getBox, List.getElem?_cons_succ] using h
theorem wOpD_load {t : TypeId} {p : Operand} {k : St → Prop} (hop : o.op = .load t p) (hg : o.guard = none) : wOpD P fi kd ops o k st ↔ wD_load P fi true none o.dst t p st (fun v s => ((kd = true → isCall o.op = true → s.K = st.K) ∧ tlOk P fi o.dst o.op v) ∧ k (s.put fi o.dst v)) := by
  unfold wOpD; rw [hg]
  have e : ∀ k, wDoD P fi true none o.dst o.op st k = wD_load P fi true none o.dst t p st k := fun k => by rw [hop]; rfl
  exact Iff.of_eq (e _)
theorem wOpD_alloc {t : TypeId} {k : St → Prop} (hop : o.op = .alloc t) (hg : o.guard = none) : wOpD P fi kd ops o k st ↔ wD_alloc P fi true none o.dst t st (fun v s => ((kd = true → isCall o.op = true → s.K = st.K) ∧ tlOk P fi o.dst o.op v) ∧ k (s.put fi o.dst v)) := by
  unfold wOpD; rw [hg]
  have e : ∀ k, wDoD P fi true none o.dst o.op st k = wD_alloc P fi true none o.dst t st k := fun k => by rw [hop]; rfl
  exact Iff.of_eq (e _)
theorem put_comm {d e : Nat} {v w : AC} (h : d ≠ e) : Ag (fun _ => True) ((s.put fi (some d) v).put fi (some e) w) ((s.put fi (some e) w).put fi (some d) v) := by
  refine ⟨fun t _ => ?_, by rw [put_K, put_K, put_K, put_K]⟩
  have h0 : ¬ (d = t ∧ e = t) := fun h1 => h (h1.1.trans h1.2.symm)
  constructor
  · simp only [put_env, Option.some.injEq]
    by_cases a : d = t <;> by_cases b : e = t <;> simp_all
  · simp only [put_loc, Option.some.injEq]
    by_cases a : d = t <;> by_cases b : e = t <;> simp_all
theorem setK_put {d : Option Nat} {v : AC} {K1 : List (List (List AC))} : ({ s with K := K1 } : St).put fi d v = { (s.put fi d v) with K := K1 } := by
  unfold St.put; split
  · rfl
  · split <;> rfl
theorem ev_put {d : Nat} {v : AC} {p : Operand} (h : (tmpOf p).elem d = false) : (s.put fi (some d) v).ev p = s.ev p := by
  cases p with
  | tmp t =>
    have : d ≠ t := by rintro rfl; simp [tmpOf] at h
    exact put_get (fun e => this (Option.some.inj e))
  | _ => rfl
theorem swapL {k : St → Prop} (hl : apartL fi x y = true) (hR : Resp k) (h : wOpD P fi kd ops x (wOpD P fi kd ops y k) st) : wOpD P fi kd ops y (wOpD P fi kd ops x k) st := by
  unfold apartL at hl
  split at hl
  · rename_i t p t2 d e hx hy hdx hdy
    simp only [Bool.and_eq_true, Bool.not_eq_true', bne_iff_ne, ne_eq, Option.isNone_iff_eq_none] at hl
    obtain ⟨⟨⟨⟨hgx, hgy⟩, htk⟩, hne⟩, hpe⟩ := hl
    rw [wOpD_load hx hgx] at h
    rw [wOpD_alloc hy hgy]
    obtain ⟨h1, h2, h3⟩ := h
    have hal : isCall y.op = false := by rw [hy]; rfl
    have hal2 : ∀ v, tlOk P fi y.dst y.op v := fun v hv => by rw [hy] at hv; cases hv
    have hld : isCall x.op = false := by rw [hx]; rfl
    have htk' : fi.takes x.dst = false := by rw [hdx]; exact htk
    have hl2 : ∀ v, tlOk P fi x.dst x.op v := fun v hv => by rw [hx] at hv; simp only [isTL, htk'] at hv; cases hv
    -- what the load yields, whatever box is new
    have key : ∃ av, (wOpD P fi kd ops y k (st.put fi (some d) av)) ∧ ∀ f K cs, st.K = f :: K → ∀ (S : St), S.K = (f ++ [cs]) :: K → S.ev p = st.ev p → ∀ k' : St → Prop, k' (S.put fi (some d) av) → wOpD P fi kd ops x k' S := by
      cases hq0 : st.ev p with
      | ptr u i off =>
        rw [hq0] at h3
        have h3 : match getBox st.K u i with | some cells => _ | none => False := h3
        cases hb : getBox st.K u i with
        | none => simp only [hb] at h3
        | some cells =>
          simp only [hb, Bool.true_and, hq.es, Bool.false_and, htk', Bool.false_eq_true, if_false] at h3
          rw [hdx] at h3
          refine ⟨_, h3.2.2, fun f K cs hK S hS hev k' hk' => ?_⟩
          rw [wOpD_load hx hgx]
          refine ⟨h1, h2, ?_⟩
          rw [hev]
          have hb2 : getBox S.K u i = some cells := by rw [hS]; rw [hK] at hb; exact getBox_push hb
          show match getBox S.K u i with | some cells => _ | none => False
          simp only [hb2, Bool.true_and, hq.es, Bool.false_and, htk', Bool.false_eq_true, if_false]
          rw [hdx]
          exact ⟨h3.1, ⟨by simp, by have := hl2; rw [hdx] at this; exact this _⟩, hk'⟩
      | ref cells =>
        rw [hq0] at h3
        rw [hdx] at h3
        refine ⟨_, h3.2.2, fun f K cs hK S hS hev k' hk' => ?_⟩
        rw [wOpD_load hx hgx]
        refine ⟨h1, h2, ?_⟩
        rw [hev]
        rw [hdx]
        exact ⟨h3.1, ⟨by simp, by have := hl2; rw [hdx] at this; exact this _⟩, hk'⟩
      | opt g v => 
        rw [hq0] at h3
        cases v with
        | ptr u i off =>
          have h3 : _ ∧ match getBox st.K u i with | some cells => _ | none => False := h3
          cases hb : getBox st.K u i with
          | none => simp only [hb, and_false] at h3
          | some cells =>
            simp only [hb, Bool.true_and, hq.es, Bool.false_and, htk', Bool.false_eq_true, if_false] at h3
            rw [hdx] at h3
            refine ⟨_, h3.2.2.2, fun f K cs hK S hS hev k' hk' => ?_⟩
            rw [wOpD_load hx hgx]
            refine ⟨h1, h2, ?_⟩
            rw [hev]
            have hb2 : getBox S.K u i = some cells := by rw [hS]; rw [hK] at hb; exact getBox_push hb
            show _ ∧ match getBox S.K u i with | some cells => _ | none => False
            simp only [hb2, Bool.true_and, hq.es, Bool.false_and, htk', Bool.false_eq_true, if_false]
            rw [hdx]
            exact ⟨h3.1, h3.2.1, ⟨by simp, by have := hl2; rw [hdx] at this; exact this _⟩, hk'⟩
        | ref cells =>
          rw [hdx] at h3
          refine ⟨_, h3.2.2.2, fun f K cs hK S hS hev k' hk' => ?_⟩
          rw [wOpD_load hx hgx]
          refine ⟨h1, h2, ?_⟩
          rw [hev]
          rw [hdx]
          exact ⟨h3.1, h3.2.1, ⟨by simp, by have := hl2; rw [hdx] at this; exact this _⟩, hk'⟩
        | ept q y o => have := h3.2.1; rw [hq.es] at this; cases this
        | _ => exact h3.2.elim
      | nam g v => 
        rw [hq0] at h3
        cases v with
        | ptr u i off =>
          have h3 : match getBox st.K u i with | some cells => _ | none => False := h3
          cases hb : getBox st.K u i with
          | none => simp only [hb] at h3
          | some cells =>
            simp only [hb, Bool.true_and, hq.es, Bool.false_and, htk', Bool.false_eq_true, if_false] at h3
            rw [hdx] at h3
            refine ⟨_, h3.2.2, fun f K cs hK S hS hev k' hk' => ?_⟩
            rw [wOpD_load hx hgx]
            refine ⟨h1, h2, ?_⟩
            rw [hev]
            have hb2 : getBox S.K u i = some cells := by rw [hS]; rw [hK] at hb; exact getBox_push hb
            show match getBox S.K u i with | some cells => _ | none => False
            simp only [hb2, Bool.true_and, hq.es, Bool.false_and, htk', Bool.false_eq_true, if_false]
            rw [hdx]
            exact ⟨h3.1, ⟨by simp, by have := hl2; rw [hdx] at this; exact this _⟩, hk'⟩
        | ref cells =>
          rw [hdx] at h3
          refine ⟨_, h3.2.2, fun f K cs hK S hS hev k' hk' => ?_⟩
          rw [wOpD_load hx hgx]
          refine ⟨h1, h2, ?_⟩
          rw [hev]
          rw [hdx]
          exact ⟨h3.1, ⟨by simp, by have := hl2; rw [hdx] at this; exact this _⟩, hk'⟩
        | ept q y o => have := h3.1; rw [hq.es] at this; cases this
        | _ => exact h3.elim
      | ept q y o => rw [hq0] at h3; have := h3.1; rw [hq.es] at this; cases this
      | _ => rw [hq0] at h3; exact h3.elim
    obtain ⟨av, ha, hx2⟩ := key
    rw [wOpD_alloc hy hgy] at ha
    refine ⟨rfl, ?_⟩
    have ha := ha.2
    rw [put_K] at ha
    cases hz : zeroOf P t2 with
    | none => simp only [hz] at ha
    | some cs =>
      cases hK : st.K with
      | nil => simp only [hz, hK] at ha
      | cons f K =>
        simp only [hz, hK] at ha
        refine ⟨ha.1, ⟨fun _ hc => (by rw [hal] at hc; cases hc), hal2 _⟩, ?_⟩
        have ha := ha.2.2
        rw [hdy] at ha ⊢
        refine hx2 f K cs hK _ (by rw [put_K]) ?_ k (hR _ _ ?_ ha)
        · rw [ev_put hpe]
          cases p <;> rfl
        · rw [← setK_put]
          exact put_comm hne
  · cases hl
def core : AC → AC
  | .opt _ v => v
  | .nam _ v => v
  | v => v
def optG : AC → Prop
  | .opt g _ => g = true
  | _ => True
theorem un_core {v : AC} {F : AC → Prop} : un none v F ↔ (optG v ∧ F (core v)) := by
  cases v <;> simp [core, optG]
theorem share_part {u : Nat} {part : List AC} (h : ∀ c ∈ part, mapC (liftP u) c ≠ .undef) : (shareL part).map (fun c => Abs.share (mapC (liftP u) c)) = part.map fun c => Abs.share (mapC (liftP u) c) := by
  rw [shareL_eq, List.map_map]
  apply List.map_congr_left
  intro c hc
  have hc := h c hc
  cases c with
  | sl o n cs => cases o <;> simp [Abs.share, mapC]
  | nam x v =>
    cases v with
    | sl o n cs => cases o <;> simp [Abs.share, mapC]
    | _ => simp [mapC] at hc
  | agg cs => simp [mapC] at hc
  | tup cs => simp [mapC] at hc
  | opt g v => simp [mapC] at hc
  | _ => simp [Abs.share]
theorem part_good {t : TypeId} {u : Nat} {part : List AC} (hn : part.length = P.cellsOf t) (h1 : noUndef (mkVal P t (part.map (mapC (liftP u)))) = true) (h2 : isAggV (mkVal P t (part.map (mapC (liftP u)))) = false → P.cellsOf t = 1) : ∀ c ∈ part, mapC (liftP u) c ≠ .undef := by
  unfold mkVal at h1 h2
  split at h1
  · intro c hc e
    simp only [noUndef] at h1
    have := List.all_eq_true.1 h1 _ (List.mem_map_of_mem hc)
    rw [e] at this
    simp at this
  · rename_i hnot
    split at h2
    · rename_i hs; exact absurd hs (hnot _)
    · have hone : part.length = 1 := by
        rw [hn]
        apply h2
        cases part with
        | nil => rfl
        | cons c r =>
          simp only [List.map_cons, List.headD_cons]
          cases c with
          | nam x v => cases v <;> rfl
          | _ => rfl
      match part, hone with
      | [c], _ =>
        intro c' hc' e
        simp only [List.mem_singleton] at hc'
        subst hc'
        simp only [List.map_cons, List.map_nil, List.headD_cons] at h1
        rw [e] at h1
        simp [noUndef] at h1
theorem getBox_set {K : List (List (List AC))} {u i u' i' : Nat} {cells new : List AC} (h : getBox K u i = some cells) : getBox (setBox K u i new) u' i' = if u' = u ∧ i' = i then some new else getBox K u' i' := by
  unfold getBox at h
  cases hf : K[u]? with
  | none => rw [hf] at h; simp at h
  | some f =>
    rw [hf, Option.bind_some] at h
    unfold setBox getBox
    simp only [hf]
    rw [List.getElem?_set]
    have hu := (List.getElem?_eq_some_iff.1 hf).1
    have hi := (List.getElem?_eq_some_iff.1 h).1
    by_cases e : u = u'
    · subst e
      rw [if_pos rfl, if_pos hu, Option.bind_some, List.getElem?_set]
      by_cases e2 : i = i'
      · subst e2; simp [hi]
      · rw [if_neg e2, if_neg (fun h => e2 h.2.symm), hf, Option.bind_some]
    · rw [if_neg e, if_neg (fun h => e h.1.symm)]
theorem mkVal_share {t : TypeId} {a b : List AC} (h : a.map Abs.share = b.map Abs.share) : Abs.share (mkVal P t a) = Abs.share (mkVal P t b) := by
  unfold mkVal
  split
  · simp only [Abs.share, shareL_eq, h]
  · have : ∀ l : List AC, Abs.share (l.headD .undef) = (l.map Abs.share).headD .undef := by intro l; cases l <;> simp [Abs.share]
    rw [this, this, h]
theorem swapT {k : St → Prop} (hl : apartT fi x y = true) (hR : Resp k) (h : wOpD P fi kd ops x (wOpD P fi kd ops y k) st) : wOpD P fi kd ops y (wOpD P fi kd ops x k) st := by
  unfold apartT at hl
  split at hl
  · rename_i t p t2 q d e hx hy hdx hdy
    simp only [Bool.and_eq_true, Bool.not_eq_true', bne_iff_ne, ne_eq, Option.isNone_iff_eq_none] at hl
    obtain ⟨⟨⟨⟨⟨⟨hgx, hgy⟩, htk⟩, htk2⟩, hne⟩, hqd⟩, hpe⟩ := hl
    have htk' : fi.takes x.dst = true := by rw [hdx]; exact htk
    have htk2' : fi.takes y.dst = false := by rw [hdy]; exact htk2
    have hfy : floatsD fi y = true := by unfold floatsD; rw [hy]; simp only [floats, htk2', Bool.not_false, Bool.true_or]
    have hldx : isCall x.op = false := by rw [hx]; rfl
    have evK : ∀ (S : St) (K1 : List (List (List AC))) (p : Operand), ({ S with K := K1 } : St).ev p = S.ev p := fun S K1 p => by cases p <;> rfl
    rw [wOpD_load hx hgx] at h
    obtain ⟨h1, h2, h3⟩ := h
    rw [un_core] at h3
    obtain ⟨hog, h3⟩ := h3
    cases hq0 : core (st.ev p) with
    | ptr u i off =>
      rw [hq0] at h3
      have h3 : match getBox st.K u i with | some cells => _ | none => False := h3
      cases hb : getBox st.K u i with
      | none => simp only [hb] at h3
      | some cells =>
        simp only [hb, Bool.true_and, hq.es, Bool.false_and, htk', if_true] at h3
        obtain ⟨hlen, ⟨hA, htl⟩, hy0⟩ := h3
        have htl2 := htl (by rw [hx]; simpa [isTL] using htk')
        have hpl : ((cells.drop off).take (P.cellsOf t)).length = P.cellsOf t := by simp; omega
        have hgood := part_good (P := P) (t := t) hpl htl2.1 (by have := htl2.2; rw [hx] at this; exact this)
        have hsp := share_part hgood
        have hmap : (putCells cells off (shareL ((cells.drop off).take (P.cellsOf t)))).map (fun c => Abs.share (mapC (liftP u) c)) = cells.map fun c => Abs.share (mapC (liftP u) c) := by
          unfold putCells
          rw [List.map_append, List.map_append, hsp]
          conv => rhs; rw [← List.take_append_drop off cells, ← List.take_append_drop (P.cellsOf t) (cells.drop off)]
          rw [List.map_append, List.map_append, shareL_eq, List.length_map, hpl, List.drop_drop, List.append_assoc]
        have hsl : (shareL ((cells.drop off).take (P.cellsOf t))).length = P.cellsOf t := by rw [shareL_eq, List.length_map, hpl]
        have hlen2 : (putCells cells off (shareL ((cells.drop off).take (P.cellsOf t)))).length = cells.length := by
          unfold putCells
          simp only [List.length_append, List.length_take, List.length_drop, hsl]
          omega
        rw [hdx] at hy0
        rw [wOpD_load hy hgy] at hy0 ⊢
        obtain ⟨g1, g2, g3⟩ := hy0
        refine ⟨g1, g2, ?_⟩
        rw [un_core] at g3 ⊢
        rw [ev_put hqd, evK] at g3
        refine ⟨g3.1, ?_⟩
        have g3 := g3.2
        have fin : ∀ v2, k (((({ st with K := setBox st.K u i (putCells cells off (shareL ((cells.drop off).take (P.cellsOf t)))) } : St).put fi (some d) (mkVal P t (((cells.drop off).take (P.cellsOf t)).map (mapC (liftP u))))).put fi (some e) v2)) → wOpD P fi kd ops x k (st.put fi (some e) v2) := by
          intro v2 hk2
          rw [wOpD_load hx hgx]
          refine ⟨h1, h2, ?_⟩
          rw [un_core, ev_put hpe]
          refine ⟨hog, ?_⟩
          rw [hq0]
          show match getBox (st.put fi (some e) v2).K u i with | some cells => _ | none => False
          rw [put_K]
          simp only [hb, Bool.true_and, hq.es, Bool.false_and, htk', if_true]
          refine ⟨hlen, ⟨fun _ hc => (by rw [hldx] at hc; cases hc), htl⟩, ?_⟩
          rw [hdx]
          refine hR _ _ ?_ hk2
          rw [← setK_put]
          exact put_comm hne
        cases hq2 : core (st.ev q) with
        | ptr u2 i2 off2 =>
          rw [hq2] at g3
          have g3 : match getBox _ u2 i2 with | some cells => _ | none => False := g3
          rw [put_K] at g3
          show match getBox st.K u2 i2 with | some cells => _ | none => False
          simp only [getBox_set hb] at g3
          by_cases he : u2 = u ∧ i2 = i
          · obtain ⟨rfl, rfl⟩ := he
            simp only [and_self, if_true, htk2', hq.es, Bool.false_and, Bool.and_false, Bool.false_eq_true, if_false] at g3
            simp only [hb, htk2', hq.es, Bool.false_and, Bool.and_false, Bool.false_eq_true, if_false]
            refine ⟨by rw [hlen2] at g3; exact g3.1, ⟨by simp, tlOk_of hfy⟩, ?_⟩
            rw [hdy] at g3 ⊢
            have hv := g3.2.2
            refine fin _ ?_
            have es : Abs.share (mkVal P t2 (List.map (mapC (liftP u2)) (List.take (P.cellsOf t2) (List.drop off2 (putCells cells off (shareL ((cells.drop off).take (P.cellsOf t))))))))
                = Abs.share (mkVal P t2 (List.map (mapC (liftP u2)) (List.take (P.cellsOf t2) (List.drop off2 cells)))) := by
              apply mkVal_share
              rw [List.map_map, List.map_map, List.map_take, List.map_take, List.map_drop, List.map_drop]
              have := hmap
              simp only [Function.comp_def]
              rw [this]
            rw [← es]; exact hv
          · simp only [if_neg he, htk2', hq.es, Bool.false_and, Bool.and_false, Bool.false_eq_true, if_false] at g3 ⊢
            cases hb2 : getBox st.K u2 i2 with
            | none => simp only [hb2] at g3
            | some c2 =>
              simp only [hb2] at g3 ⊢
              refine ⟨g3.1, ⟨by simp, tlOk_of hfy⟩, ?_⟩
              rw [hdy] at g3 ⊢
              exact fin _ g3.2.2
        | ref c2 =>
          rw [hq2] at g3
          refine ⟨g3.1, ⟨by simp, tlOk_of hfy⟩, ?_⟩
          rw [hdy] at g3 ⊢
          exact fin _ g3.2.2
        | ept a b c => rw [hq2] at g3; have := g3.1; rw [hq.es] at this; cases this
        | _ => rw [hq2] at g3; exact g3.elim
    | ref cells =>
      rw [hq0] at h3
      obtain ⟨hlen, ⟨hA, htl⟩, hy0⟩ := h3
      rw [hdx] at hy0
      obtain ⟨pre, av, hfix⟩ := wOpD_fix (P := P) (kd := kd) (ops := ops) hfy st
      have hlk : ∀ v : AC, ∀ j ∈ looks ops y, (st.put fi (some d) v).get j = st.get j := by
        intro v j hj
        refine put_get fun e1 => ?_
        cases e1
        unfold looks at hj
        rw [hgy] at hj
        simp only [List.append_nil] at hj
        have := mem_reads.1 hj
        rw [hy] at this
        simp only [Op.operands, List.mem_toArray, List.mem_singleton] at this
        subst this
        simp [tmpOf] at hqd
      have hy1 := (hfix _ (hlk _) (fun _ => put_K) k).1 hy0
      refine (hfix st (fun _ _ => rfl) (fun _ => rfl) _).2 ⟨hy1.1, ?_⟩
      rw [wOpD_load hx hgx]
      refine ⟨h1, h2, ?_⟩
      have hy2 := hy1.2
      rw [hdy] at hy2 ⊢
      rw [un_core, ev_put hpe]
      refine ⟨hog, ?_⟩
      rw [hq0]
      refine ⟨hlen, ⟨by simp, htl⟩, ?_⟩
      rw [hdx]
      exact hR _ _ (put_comm hne) hy2
    | ept a b c => rw [hq0] at h3; have := h3.1; rw [hq.es] at this; cases this
    | _ => rw [hq0] at h3; exact h3.elim
  · cases hl
theorem wOpD_mono {k k' : St → Prop} (hR : Resp k') (h : ∀ s, k s → k' s) (hw : wOpD P fi kd ops o k st) : wOpD P fi kd ops o k' st :=
  wOpD_rel (A := fun _ => True) Ag.refl (fun _ _ => trivial) (fun v s1 s1' hag _ _ _ _ hh => hR _ _ hag.put (h _ hh)) hw
theorem resp_op {k : St → Prop} (hR : Resp k) : Resp (wOpD P fi kd ops o k) := fun s s' h hw =>
  wOpD_rel (A := fun _ => True) h (fun _ _ => trivial) (fun v s1 s1' hag _ _ _ _ hh => hR _ _ hag.put hh) hw
theorem resp_ops {k : St → Prop} (hR : Resp k) : ∀ {l : List Oper}, Resp (wOpsD P fi kd ops l k) := by
  intro l
  induction l with
  | nil => exact hR
  | cons o l ih => exact resp_op ih
theorem front {k : St → Prop} (hR : Resp k) {r2 : List Oper} : ∀ {r1 : List Oper} {st : St}, (∀ x ∈ r1, swapOk fi kd ops x o = true) → wOpsD P fi kd ops (r1 ++ o :: r2) k st →
    wOpD P fi kd ops o (wOpsD P fi kd ops (r1 ++ r2) k) st := by
  intro r1
  induction r1 with
  | nil => intro st _ h; exact h
  | cons x r1 ih =>
    intro st hs h
    have h : wOpD P fi kd ops x (wOpsD P fi kd ops (r1 ++ o :: r2) k) st := h
    have h2 : wOpD P fi kd ops x (wOpD P fi kd ops o (wOpsD P fi kd ops (r1 ++ r2) k)) st :=
      wOpD_mono (resp_op (resp_ops hR)) (fun s hh => ih (fun y hy => hs y (List.mem_cons_of_mem _ hy)) hh) h
    have := hs x List.mem_cons_self
    simp only [swapOk, Bool.or_eq_true] at this
    rcases this with ((((h3 | h3) | h3) | h3) | h3) | h3
    · exact swapA h3 (resp_ops hR) h2
    · exact swapB h3 (resp_ops hR) h2
    · exact swapD1 h3 (resp_ops hR) h2
    · exact swapD2 h3 (resp_ops hR) h2
    · exact swapL h3 (resp_ops hR) h2
    · exact swapT h3 (resp_ops hR) h2

theorem wXs_wTs {l : List Operand} {k : List AC → Prop} {k' : List AC → St → Prop} (hl : l.all (noTk fi) = true) (hk : ∀ vs, k vs → k' vs st) (h : wXs gd st l k) : wTs fi m gd l st k' := by
  induction l generalizing k k' with
  | nil => exact hk _ h
  | cons x l ih =>
    simp only [List.all_cons, Bool.and_eq_true] at hl
    have h : un gd (st.ev x) fun v => wXs gd st l fun vs => k (share v :: vs) := h
    show wT fi m gd st x fun v st => wTs fi m gd l st fun vs st => k' (v :: vs) st
    cases x with
    | tmp t =>
      have e : fi.tk.elem t = false := by simpa [noTk] using hl.1
      show un gd (st.get t) fun v => if m && fi.tk.elem t then _ else _
      simp only [e, Bool.and_false, Bool.false_eq_true, if_false]
      exact un_mono (fun u hu => ih hl.2 (fun vs hv => hk _ hv) hu) h
    | const c =>
      have key : ∀ z : AC, (∃ c, z = ofV c) → un gd z (fun v => wXs gd st l fun vs => k (share v :: vs)) → wXs gd st l fun vs => k (z :: vs) := by
        rintro z ⟨c, rfl⟩ hz
        unfold ofV at hz ⊢
        split at hz
        · exact hz
        · exact hz
        · split at hz
          · rename_i hlt; rw [if_pos hlt]; exact hz
          · rename_i hlt; rw [if_neg hlt]; exact hz
        · exact hz
        · exact hz
      exact ih hl.2 (fun vs hv => hk _ hv) (key _ ⟨c, rfl⟩ h)
    | func f => exact ih hl.2 (fun vs hv => hk _ hv) h
    | global g => exact ih hl.2 (fun vs hv => hk _ hv) h
/-- In text order 'len' may tell more. -/
theorem wDoD_wDo {op : Go.Op} {k k' : AC → St → Prop} (hmg : m = true → gOk gd) (hk : ∀ v s1 s1', Ag (fun _ => True) s1 s1' → k v s1 → k' v s1') (h : wDoD P fi m gd dst op st k) : wDo P fi m gd dst op st k' := by
  unfold wDoD at h
  split at h
  · rename_i x t hl
    unfold isLen at hl
    split at hl
    · rename_i args ts
      split at hl
      · rename_i y t' r h1 h2
        cases hl
        show wBuiltin P fi m (fi.keeps dst) gd .len args.toList ts.toList st k'
        rw [h1, h2]
        show un gd (st.ev x) fun v => wLen gd (tdOf P t) v fun v => k' v st
        refine un_mono (fun u hu => ?_) h
        unfold wLenD at hu
        unfold wLen
        split at hu
        · rename_i e1
          first | exact fun _ => hk _ _ _ Ag.refl hu | (rw [e1]; exact fun _ => hk _ _ _ Ag.refl hu)
        · rename_i e1
          first | exact fun _ => hk _ _ _ Ag.refl hu | (rw [e1]; exact fun _ => hk _ _ _ Ag.refl hu)
        · rename_i e1
          first | exact ⟨hu.1, hk _ _ _ Ag.refl hu.2⟩ | (rw [e1]; exact ⟨hu.1, hk _ _ _ Ag.refl hu.2⟩)
        · exact hu.elim
      · cases hl
    · cases hl
  · split at h
    · rename_i f args r hQ
      obtain ⟨⟨a, ts, rfl, rfl⟩, hn, _⟩ := isQ_some hQ
      show un gd (st.ev f) _
      refine un_mono (fun u hu => ?_) h
      cases u with
      | fn g caps =>
        have hb : (m && fi.bw.elem g) = false := by rw [hq.bw]; simp
        simp only [hb, Bool.false_eq_true, if_false] at hu ⊢
        refine wXs_wTs hn (fun vs hv => ?_) hu
        unfold callK
        split
        · rename_i hm; exact ⟨r, st.K, hv.1 (hmg hm) _, hk _ _ _ Ag.refl hv.2⟩
        · exact ⟨r, fun hg => hv.1 hg _, hk _ _ _ Ag.refl hv.2⟩
      | _ => exact hu.elim
    · exact wDo_rel (A := fun _ => True) Ag.refl (fun _ _ => trivial) (fun v s1 s1' hag _ _ hh => hk _ _ _ hag hh) h
theorem wOpD_wOp {k : St → Prop} (hR : Resp k) (h : wOpD P fi kd ops o k st) : wOp P fi true ops o k st := by
  unfold wOpD at h
  unfold wOp
  split at h
  · rename_i hg
    try simp only [hg]
    exact wDoD_wDo (fun _ => trivial) (fun v s1 s1' hag hh => hR _ _ hag.put hh.2) h
  · rename_i g want hg
    try simp only [hg]
    split at h
    · rename_i b hv
      try simp only [hv]
      exact wDoD_wDo (fun h => by cases h) (fun v s1 s1' hag hh => hR _ _ hag.put hh.2) h
    · exact h.elim
end

section
variable {C : Cx} {st : St} {a : Act} {w : World} {Pr : Addr → Prop} {b : List Nat} {Q : Exit → Act → World → Prop} {ops : Array Oper} {kd : Bool}

/-- One operation, whatever follows. -/
theorem wOp_step {o : Oper} {k : St → Prop} {m : Bool} {next : Act → World → Prop} (hk : ∀ st' a' w' Pr' b', k st' → SR C st' a' w' Pr' b' [] [] → next a' w') (hd : opDst C.N o = true)
    (h : wOp C.P C.fi m ops.toList o k st) (hS : SR C st a w Pr b [] []) : if Region.wanted o (yielded ops a.tmps) then o.wp C.P a w next Q ∨ (o.asks C.P a w ∧ LetsOut Q) else next (a.put o.dst undef) w := by
  have hdst : ∀ j, o.dst = some j → j < C.N := by
    intro j hj
    simp only [opDst, hj, decide_eq_true_eq] at hd
    exact hd
  unfold wOp at h
  cases hg : o.guard with
  | none =>
    simp only [hg] at h
    rw [if_pos (by simp [Region.wanted, hg])]
    refine .inl (wDo_sound hS (by simp [gOk]) h ?_)
    intro av st' v w' Pr' b' hk' hS' _
    exact hk _ _ _ _ _ hk' (hS'.put o.dst hdst)
  | some gw =>
    obtain ⟨g, want⟩ := gw
    simp only [hg] at h
    cases hv : gVal st ops.toList g want with
    | none => simp [hv] at h
    | some c =>
      simp only [hv] at h
      have hw := gVal_wanted hS hv
      have hwant : Region.wanted o (yielded ops a.tmps) = c := by simp only [Region.wanted, hg]; exact hw
      cases c with
      | true =>
        rw [if_pos hwant]
        refine .inl (wDo_sound hS (by simp [gOk]) h ?_)
        intro av st' v w' Pr' b' hk' hS' _
        have hS2 := hS'.weaken (d := .opt true av) fun L hr => ⟨L, .optT hr, fun x => Nat.le_refl _⟩
        exact hk _ _ _ _ _ hk' (hS2.put o.dst hdst)
      | false =>
        rw [if_neg (by rw [hwant]; simp)]
        obtain ⟨av, hk'⟩ := wDo_any (by simp [gOk]) h
        exact hk _ _ _ _ _ hk' (SR.put (c := .opt false av) (hS.push .optF) o.dst hdst)
end
end Go.Proofs.YtkefgpmnimpcdaaGreatDoor.Abs
/- Regions that draw their order: any order. No condition. -/
set_option linter.unusedVariables false
set_option linter.unusedSectionVars false
set_option linter.unusedSimpArgs false
namespace Go.Proofs.YtkefgpmnimpcdaaGreatDoor.Abs
open Go
section
variable {C : Cx} [hq : Quiet C.fi] {Q : Exit → Act → World → Prop} {ops : Array Oper} {kd : Bool}

theorem getD_lt {l : Array Bool} {j : Nat} (h : j < l.size) (d d' : Bool) : l.getD j d = l.getD j d' := by simp [Array.getD, h]

/-- i comes after j, by edges. -/
inductive Rch (ops : List Oper) (j : Nat) : Nat → Prop
  | base {i : Nat} {o : Oper} {e : Edge} : ops[i]? = some o → e ∈ o.after.toList → Region.binds .any e = true → e.on = j → Rch ops j i
  | step {i : Nat} {o : Oper} {e : Edge} : ops[i]? = some o → e ∈ o.after.toList → Region.binds .any e = true → Rch ops j e.on → Rch ops j i

theorem maskOf_bit {acc : List Nat} {j : Nat} : ∀ {es : List Edge}, (maskOf acc es).testBit j = true → ∃ e ∈ es, Region.binds .any e = true ∧ (e.on = j ∨ (acc.getD e.on 0).testBit j = true) := by
  intro es
  induction es with
  | nil => intro h; simp [maskOf] at h
  | cons e es ih =>
    intro h
    rw [show maskOf acc (e :: es) = if Region.binds .any e then (maskOf acc es ||| (2 ^ e.on)) ||| acc.getD e.on 0 else maskOf acc es from rfl] at h
    by_cases hb : Region.binds .any e = true
    · rw [if_pos hb] at h
      simp only [Nat.testBit_or, Bool.or_eq_true, Nat.testBit_two_pow, decide_eq_true_eq] at h
      rcases h with (h | h) | h
      · obtain ⟨e', h1, h2⟩ := ih h
        exact ⟨e', List.mem_cons_of_mem _ h1, h2⟩
      · exact ⟨e, List.mem_cons_self, hb, .inl h⟩
      · exact ⟨e, List.mem_cons_self, hb, .inr h⟩
    · rw [if_neg hb] at h
      obtain ⟨e', h1, h2⟩ := ih h
      exact ⟨e', List.mem_cons_of_mem _ h1, h2⟩

theorem masks_rch {ops : List Oper} {j : Nat} : ∀ (os : List Oper) (acc : List Nat), ops = ops.take acc.length ++ os → (∀ i, (acc.getD i 0).testBit j = true → Rch ops j i) → ∀ i, ((masks os acc).getD i 0).testBit j = true → Rch ops j i := by
  intro os
  induction os with
  | nil => intro acc _ h i hi; exact h i hi
  | cons o os ih =>
    intro acc he h i hi
    have hlen : acc.length ≤ ops.length := by
      rcases Nat.lt_or_ge ops.length acc.length with hl | hl
      · rw [List.take_of_length_le (by omega)] at he
        have := congrArg List.length he
        simp at this
      · exact hl
    have ho : ops[acc.length]? = some o := by
      rw [he, List.getElem?_append_right (by simp; omega)]
      simp [Nat.min_eq_left hlen]
    refine ih (acc ++ [maskOf acc o.after.toList]) ?_ (fun i hi => ?_) i hi
    · conv => lhs; rw [he]
      rw [List.length_append, List.length_singleton, List.take_add_one, ho]
      simp
    · rcases Nat.lt_trichotomy i acc.length with hl | hl | hl
      · refine h i ?_
        rwa [List.getD_eq_getElem?_getD, List.getElem?_append_left hl, ← List.getD_eq_getElem?_getD] at hi
      · subst hl
        rw [List.getD_eq_getElem?_getD, List.getElem?_append_right (Nat.le_refl _)] at hi
        simp at hi
        obtain ⟨e, h1, h2, h3⟩ := maskOf_bit (es := o.after.toList) hi
        rcases h3 with h3 | h3
        · exact .base ho h1 h2 h3
        · exact .step ho h1 h2 (h _ h3)
      · rw [List.getD_eq_getElem?_getD, List.getElem?_eq_none (by simp; omega)] at hi
        simp at hi

theorem drawOk_at {fi : FI} (h : drawOk fi kd ops.toList = true) {i : Nat} {o : Oper} (ho : ops[i]? = some o) :
    (∀ e ∈ o.after, Region.binds .any e = true → e.on < i) ∧ ∀ j x, j < i → ops[j]? = some x → Rch ops.toList j i ∨ swapOk fi kd ops.toList x o = true := by
  have hlt : i < ops.size := (Array.getElem?_eq_some_iff.1 ho).1
  have h1 := List.all_eq_true.1 h i (by simpa using hlt)
  rw [show ops.toList[i]? = some o by simpa using ho] at h1
  simp only [Bool.and_eq_true] at h1
  refine ⟨fun e he hb => ?_, fun j x hj hx => ?_⟩
  · have := List.all_eq_true.1 h1.1 e (by simpa using he)
    simpa [hb] using this
  · have := List.all_eq_true.1 h1.2 j (by simpa using hj)
    rw [show ops.toList[j]? = some x by simpa using hx] at this
    simp only [Bool.or_eq_true] at this
    rcases this with h2 | h2
    · exact .inl (masks_rch ops.toList [] (by simp) (fun i hi => by simp at hi) i h2)
    · exact .inr h2

/-- What is listed has all that it comes after listed. -/
def Clo (ops : Array Oper) (listed : Array Bool) : Prop := ∀ (i : Nat) (o : Oper), ops[i]? = some o → listed.getD i true = true → ∀ e ∈ o.after, Region.binds .any e = true → listed.getD e.on true = true
theorem rch_listed {listed : Array Bool} (hc : Clo ops listed) {j i : Nat} (h : Rch ops.toList j i) : (∀ o, ops[i]? = some o → ∀ e ∈ o.after, Region.binds .any e = true → listed.getD e.on true = true) → listed.getD j true = true := by
  induction h with
  | base h1 h2 h3 h4 => intro hp; rw [← h4]; exact hp _ (by simpa using h1) _ (by simpa using h2) h3
  | step h1 h2 h3 h4 ih => intro hp; exact ih fun o ho => hc _ o ho (hp _ (by simpa using h1) _ (by simpa using h2) h3)

theorem draw_any (hck : drawOk C.fi kd ops.toList = true) (hd : ops.toList.all (opDst C.N) = true) {k : St → Prop} (hR : Resp k)
    (hk : ∀ st' a' w' Pr' b', k st' → SR C st' a' w' Pr' b' [] [] → Q .normal a' w') :
    ∀ (fuel : Nat) (idx : List Nat) (listed : Array Bool) (st : St) (a : Act) (w : World) (Pr : Addr → Prop) (b : List Nat), listed.size = ops.size →
      Clo ops listed → (∀ i, i ∈ idx ↔ i < ops.size ∧ listed.getD i true = false) → idx.Pairwise (· < ·) → idx.length ≤ fuel →
      wOpsD C.P C.fi kd ops.toList (idx.filterMap (ops[·]?)) k st → SR C st a w Pr b [] [] → wpAny C.P .any ops Q fuel listed a w := by
  have nil : ∀ (idx : List Nat) (listed : Array Bool), listed.size = ops.size → (∀ i, i ∈ idx ↔ i < ops.size ∧ listed.getD i true = false) → idx.Pairwise (· < ·) → Region.ready .any ops listed = [] → idx = [] := by
    intro idx listed hsz hm hp hr
    cases idx with
    | nil => rfl
    | cons i r =>
      exfalso
      obtain ⟨hi, hl⟩ := (hm i).1 List.mem_cons_self
      have ho : ops[i]? = some ops[i] := Array.getElem?_eq_getElem hi
      have : i ∈ Region.ready .any ops listed := by
        rw [mem_ready]
        refine ⟨hl, _, ho, fun e he hb => ?_⟩
        have hlt := (drawOk_at hck ho).1 e he hb
        have hn : e.on ∉ i :: r := by
          intro hmem
          rcases List.mem_cons.1 hmem with h1 | h1
          · omega
          · have := (List.pairwise_cons.1 hp).1 _ h1; omega
        have h2 : ¬ (e.on < ops.size ∧ listed.getD e.on true = false) := fun h => hn ((hm _).2 h)
        have h3 : e.on < ops.size := by omega
        rw [getD_lt (by omega) false true]
        cases h4 : listed.getD e.on true with
        | true => rfl
        | false => exact absurd ⟨h3, h4⟩ h2
      rw [hr] at this
      cases this
  intro fuel
  induction fuel with
  | zero =>
    intro idx listed st a w Pr b hsz hcl hm hp hl h hS
    obtain rfl : idx = [] := List.eq_nil_of_length_eq_zero (by omega)
    refine ⟨?_, hk _ _ _ _ _ h hS⟩
    cases hr : Region.ready .any ops listed with
    | nil => rfl
    | cons i r =>
      have hi : i ∈ Region.ready .any ops listed := by rw [hr]; exact List.mem_cons_self
      obtain ⟨h0, o, ho, _⟩ := mem_ready.1 hi
      have := (hm i).2 ⟨(Array.getElem?_eq_some_iff.1 ho).1, h0⟩
      cases this
  | succ fuel ih =>
    intro idx listed st a w Pr b hsz hcl hm hp hl h hS
    refine ⟨fun hr => ?_, fun i hi => ?_⟩
    · obtain rfl := nil idx listed hsz hm hp hr
      exact hk _ _ _ _ _ h hS
    · obtain ⟨h0, o, ho, hpre⟩ := mem_ready.1 hi
      have hlt : i < ops.size := (Array.getElem?_eq_some_iff.1 ho).1
      have hmem := (hm i).2 ⟨hlt, h0⟩
      have hpre' : ∀ o', ops[i]? = some o' → ∀ e ∈ o'.after, Region.binds .any e = true → listed.getD e.on true = true := by
        intro o' ho' e he hb
        rw [ho] at ho'; cases ho'
        have h2 := hpre e he hb
        have h3 := (drawOk_at hck ho).1 e he hb
        rwa [getD_lt (by omega) true false]
      obtain ⟨F1, F2, rfl⟩ := List.append_of_mem hmem
      have hp2 := List.pairwise_append.1 hp
      have e1 : (F1 ++ i :: F2).filterMap (ops[·]?) = F1.filterMap (ops[·]?) ++ o :: F2.filterMap (ops[·]?) := by
        rw [List.filterMap_append, List.filterMap_cons]; simp only [ho]
      rw [e1] at h
      have hsw : ∀ x ∈ F1.filterMap (ops[·]?), swapOk C.fi kd ops.toList x o = true := by
        intro x hx
        obtain ⟨j, hj, hjx⟩ := List.mem_filterMap.1 hx
        have hji : j < i := hp2.2.2 j hj i List.mem_cons_self
        rcases (drawOk_at hck ho).2 j x hji hjx with h1 | h1
        · have h2 := rch_listed hcl h1 hpre'
          have h3 := ((hm j).1 (List.mem_append_left _ hj)).2
          rw [h3] at h2
          cases h2
        · exact h1
      have h2 := wOpD_wOp (resp_ops hR) (front hR hsw h)
      unfold wpOp
      simp only [ho]
      refine wOp_step (fun st' a' w' Pr' b' hk' hS' => ih (F1 ++ F2) _ st' a' w' Pr' b' (by simpa using hsz) (fun i2 o2 ho2 hl2 e he hb => ?_) (fun j => ?_) ?_ ?_ ?_ hS') (List.all_eq_true.1 hd o (by
        have := Array.getElem?_eq_some_iff.1 ho
        obtain ⟨h3, rfl⟩ := this
        simp)) h2 hS
      · by_cases e3 : e.on = i
        · rw [e3]
          have hlt2 : i < listed.size := by omega
          simp [Array.getD, hlt2]
        · rw [getD_set_ne true (fun h => e3 h.symm)]
          by_cases e4 : i2 = i
          · subst e4; exact hpre' o2 ho2 e he hb
          · rw [getD_set_ne true (fun h => e4 h.symm)] at hl2
            exact hcl i2 o2 ho2 hl2 e he hb
      · by_cases e : j = i
        · subst e
          have hn : j ∉ F1 ++ F2 := by
            intro hm2
            rcases List.mem_append.1 hm2 with h3 | h3
            · have := hp2.2.2 j h3 j List.mem_cons_self; omega
            · have := (List.pairwise_cons.1 hp2.2.1).1 j h3; omega
          have hlt2 : j < listed.size := by omega
          have : (listed.setIfInBounds j true).getD j true = true := by simp [Array.getD, hlt2]
          rw [this]
          simp only [Bool.true_eq_false, and_false, iff_false]
          exact hn
        · rw [getD_set_ne true (fun h => e h.symm), ← hm j]
          simp [e]
      · refine List.pairwise_append.2 ⟨hp2.1, (List.pairwise_cons.1 hp2.2.1).2, fun x hx y hy => hp2.2.2 x hx y (List.mem_cons_of_mem _ hy)⟩
      · simp at hl ⊢; omega
      · rw [List.filterMap_append]; exact hk'

theorem SR.drawn {st : St} {a : Act} {w : World} {Pr : Addr → Prop} {b : List Nat} {xs : List AC} {vs : List Value} (h : SR C st a w Pr b xs vs) (n : Nat) : SR C st a { w with drawn := n } Pr b xs vs := by
  obtain ⟨Le, Ll, Lx, Lk, h⟩ := h
  have hp : ∀ p, Pr p → Pr p ∧ World.cell? { w with drawn := n } p = w.cell? p := fun p hp => ⟨hp, rfl⟩
  have hk : ∀ g, Kept w Pr { w with drawn := n } Pr g := fun g => ⟨rfl, fun a h _ => h⟩
  exact ⟨Le, Ll, Lx, Lk, ⟨h.env.kept hp fun g _ => hk g, h.loc.kept hp fun g _ => hk g, h.reg.kept hp fun g _ => hk g, h.K.kept hp (fun g _ => hk g) fun g _ => hk g, h.cnt, h.new, h.kE, h.kL, h.prlt,
    ⟨h.since.os, h.since.tape, h.since.output, h.since.size, h.since.block, h.since.prot, h.since.newPr⟩, h.defers, h.size⟩⟩

theorem SR.ag {s s0 : St} {a : Act} {w : World} {Pr : Addr → Prop} {b : List Nat} {xs : List AC} {vs : List Value} (h : SR C s a w Pr b xs vs) (hag : Ag (fun _ => True) s0 s) (h1 : (s0.env.map (·.1)).Nodup) (h2 : (s0.loc.map (·.1)).Nodup) :
    SR C s0 a w Pr b xs vs := by
  obtain ⟨Le, Ll, Lx, Lk, h⟩ := h
  obtain ⟨Le', r1, c1⟩ := h.env.le h1 (fun k v hv => ⟨v, by rw [← (hag.1 k trivial).1]; exact hv, .refl⟩)
  obtain ⟨Ll', r2, c2⟩ := h.loc.le h2 (fun k v hv => ⟨v, by rw [← (hag.1 k trivial).2]; exact hv, .refl⟩)
  refine ⟨Le', Ll', Lx, Lk, ⟨r1, r2, h.reg, by rw [hag.2]; exact h.K, fun x => ?_, fun x hx => h.new x ?_, ⟨h1, fun k hk => ?_⟩, ⟨h2, fun k hk => ?_⟩, h.prlt, h.since, h.defers, h.size⟩⟩
  · have := h.cnt x; have := c1 x; have := c2 x; omega
  · have := c1 x; have := c2 x; omega
  · obtain ⟨v, hv⟩ := mem_look' _ _ hk
    rw [(hag.1 k trivial).1] at hv
    exact h.kE.2 k (mem_look _ _ _ hv)
  · obtain ⟨v, hv⟩ := mem_look' _ _ hk
    rw [(hag.1 k trivial).2] at hv
    exact h.kL.2 k (mem_look _ _ _ hv)

theorem drawOk_qr {n0 : Nat} {ex tk kp xr qs th : List Nat} {es : Bool} {bw : List FuncId} {qr qr' : List (Nat × AC)} {gb : List (Nat × Nat × Nat)} {kd : Bool} {ops : List Oper} : drawOk ⟨n0, ex, tk, kp, es, xr, bw, qs, qr, th, gb⟩ kd ops = drawOk ⟨n0, ex, tk, kp, es, xr, bw, qs, qr', th, gb⟩ kd ops := rfl
theorem draw_sound {id : Nat} (hm : C.P.follows .mixedOrders = true) (hck : drawOk C.fi kd ops.toList = true) (hd : ops.toList.all (opDst C.N) = true) {k : St → Prop}
    (hk : ∀ st' a' w' Pr' b', k st' → SR C st' a' w' Pr' b' [] [] → Q .normal a' w') {st : St} {a : Act} {w : World} {Pr : Addr → Prop} {b : List Nat}
    (h : wOpsD C.P C.fi kd ops.toList ops.toList (fun s => (s.env.map (·.1)).Nodup ∧ (s.loc.map (·.1)).Nodup ∧ k s) st) (hS : SR C st a w Pr b [] []) : (Code.region id ops true).wp C.P Q a w := by
  refine wp_region_any hm ?_
  let k' : St → Prop := fun s => ∃ s0, Ag (fun _ => True) s0 s ∧ (s0.env.map (·.1)).Nodup ∧ (s0.loc.map (·.1)).Nodup ∧ k s0
  have hR : Resp k' := fun s s' hag ⟨s0, g, r⟩ => ⟨s0, ⟨fun t ht => ⟨(g.1 t ht).1.trans (hag.1 t ht).1, (g.1 t ht).2.trans (hag.1 t ht).2⟩, g.2.trans hag.2⟩, r⟩
  have hmono : ∀ (l : List Oper) (st : St), wOpsD C.P C.fi kd ops.toList l (fun s => (s.env.map (·.1)).Nodup ∧ (s.loc.map (·.1)).Nodup ∧ k s) st → wOpsD C.P C.fi kd ops.toList l k' st := by
    intro l
    induction l with
    | nil => intro st hh; exact ⟨st, Ag.refl, hh⟩
    | cons o l ih => intro st hh; exact wOpD_mono (resp_ops hR) ih hh
  have hrange : (List.range ops.size).filterMap (ops[·]?) = ops.toList := by
    have : ∀ n, n ≤ ops.size → (List.range n).filterMap (ops[·]?) = ops.toList.take n := by
      intro n
      induction n with
      | zero => intro _; simp
      | succ n ih =>
        intro hn
        rw [List.range_succ, List.filterMap_append, ih (by omega), List.take_add_one]
        have e : ops[n]? = some ops[n] := Array.getElem?_eq_getElem (by omega)
        simp [e]
    rw [this _ (Nat.le_refl _), List.take_of_length_le (by simp)]
  refine draw_any (k := k') (kd := kd) hck hd hR (fun st' a' w' Pr' b' ⟨s0, g, n1, n2, hk0⟩ hS' => hk _ _ _ _ _ hk0 (hS'.ag g n1 n2)) ops.size (List.range ops.size) _ st a _ Pr b (by simp) (fun i o ho hl => by
    have := (Array.getElem?_eq_some_iff.1 ho).1
    simp [Array.getD, this] at hl) (fun i => by
    simp [Array.getD]) List.pairwise_lt_range (by simp) (by rw [hrange]; exact hmono _ _ h) (hS.drawn _)
end
end Go.Proofs.YtkefgpmnimpcdaaGreatDoor.Abs
