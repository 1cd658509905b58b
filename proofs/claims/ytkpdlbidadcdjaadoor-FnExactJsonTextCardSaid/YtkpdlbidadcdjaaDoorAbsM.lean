/- Appending, made slices, conversions. No condition. -/
import Derived.Test.YtkpdlbidadcdjaaDoorAbsL
import Derived.Lib.AppendStr
set_option linter.unusedVariables false
set_option linter.unusedSimpArgs false
namespace Go.Proofs.YtkpdlbidadcdjaaDoor.Abs
open Go
section
variable {P : Program} {w : World} {Pr : Addr → Prop}
variable {C : Cx} {st : St} {a : Act} {w' : World} {Pr' : Addr → Prop} {b : List Nat} {xs : List AC} {vs : List Value} {m : Bool} {gd : Option Bool} {dst : Option Nat}
  {next : Act → World → Prop} {Q : Exit → Act → World → Prop} {k : AC → St → Prop} {o : Oper}

theorem SRL.drew {Le Ll Lx Lk : List Nat} (h : SRL C st a w Pr b xs vs Le Ll Lx Lk) : SRL C st a w.drew Pr b xs vs Le Ll Lx Lk := by
  have hp : ∀ p, Pr p → Pr p ∧ w.drew.cell? p = w.cell? p := fun p hp => ⟨hp, rfl⟩
  have hk : ∀ g, Kept w Pr w.drew Pr g := fun g => ⟨rfl, fun p hp _ => hp⟩
  have hs := h.since
  exact ⟨h.env.kept hp fun x _ => hk x, h.loc.kept hp fun x _ => hk x, h.reg.kept hp fun x _ => hk x, h.K.kept hp (fun x _ => hk x) (fun x _ => hk x), h.cnt, h.new, h.kE, h.kL, h.prlt,
    ⟨hs.os, hs.tape, hs.output, hs.size, hs.block, hs.prot, hs.newPr⟩, h.defers, h.size⟩

theorem run_append_zero {t ty e : TypeId} (ht : P.underlying t = some (.slice e)) (hpos : 0 < P.cellsOf e) {base src : Option Addr} {n cap c2 : Nat} (hn : n ≤ cap) :
    (Builtin.append_ #[t, t] ty #[.slice base n cap, .slice src 0 c2]).run P w = .ok (.slice base n cap) w := by
  cases base <;> cases src <;> simp [Builtin.append_, run_underlying ht, run_sizeOf_of hpos, Builtin.lenOf, hn, Builtin.firstCells, loadCells, loadCellsFrom, storeCells]

/-- What a source of cells is. -/
theorem rep_src {bl : List (List Nat)} {ow : Ow} {n : Nat} {cells : List AC} {z : Value} {L : List Nat} (hr : Rep P w Pr bl (.sl ow n cells) z L) :
    (∃ cap, z = .slice none n cap ∧ n = 0 ∧ cells = []) ∨ ∃ p cap vals L', z = .slice (some p) n cap ∧ Reps P w Pr [] cells vals L' ∧ (∀ x, L'.count x ≤ L.count x) ∧ (∀ v ∈ vals, v.oneCell' = true) ∧
      (∀ j u, vals[j]? = some u → w.cell? (p.add j) = some u) := by
  cases hr with
  | slNo h1 h2 h3 h4 h5 => exact .inr ⟨_, _, _, _, rfl, h1, fun x => Nat.le_refl _, h2, fun j u hu => (h3 j u hu).2⟩
  | slNil => exact .inl ⟨_, rfl, rfl, rfl⟩
  | slOf h1 h2 h3 h4 h5 h6 h7 h8 h9 h10 =>
    rename_i e vals g cap L cur
    refine .inr ⟨_, _, _, _, rfl, h1, fun x => by rw [List.count_cons]; omega, h2, fun j u hu => ?_⟩
    rw [Addr.add_lit, Nat.zero_add, cell_of_row w _ _ _ _ _ h3]
    rw [← h8, List.getElem?_take] at hu
    split at hu
    · simpa using hu
    · cases hu
  | slEx h1 h2 h3 h4 h5 h6 h7 h8 h9 =>
    rename_i e vals g cap L cur
    refine .inr ⟨_, _, _, _, rfl, h1, fun x => by rw [List.count_cons]; omega, h2, fun j u hu => ?_⟩
    rw [Addr.add_lit, Nat.zero_add, cell_of_row w _ _ _ _ _ h3]
    rw [← h8, List.getElem?_take] at hu
    split at hu
    · simpa using hu
    · cases hu

theorem cell_prefix {g : Nat} {cur cur' : Array Value} {T : TypeId} {p : Addr} (hh : w.heap[g]? = some (.cells cur T (0, 0))) (hb : p.block = g) (he : cur'[p.off]? = cur[p.off]?) :
    (w.setRow g cur').cell? p = w.cell? p := by
  have h1 := setRow_heap w g cur cur' T (0, 0) hh
  simp only [World.cell?, hb, h1, hh, he]

theorem appOw_cases {keep : Bool} {e : TypeId} {ow o' : Ow} (h : appOw keep e ow = some o') :
    ∃ kp : Bool, o' = (if kp = true then .ex e else .of e) ∧ (ow = .nil ∨ (kp = false ∧ ow = .of e) ∨ (kp = true ∧ ow = .ex e)) := by
  cases ow with
  | nil =>
    simp only [appOw, Option.some.injEq] at h
    exact ⟨keep, by rw [← h], .inl rfl⟩
  | of e' =>
    simp only [appOw] at h
    split at h
    · rename_i e1; subst e1; cases h; exact ⟨false, rfl, .inr (.inl ⟨rfl, rfl⟩)⟩
    · cases h
  | ex e' =>
    simp only [appOw] at h
    split at h
    · rename_i e1; subst e1; cases h; exact ⟨true, rfl, .inr (.inr ⟨rfl, rfl⟩)⟩
    · cases h
  | no => simp [appOw] at h

/-- What an append does with a source, whatever the source is. -/
structure AppRuns (P : Program) (w : World) (ts : Array TypeId) (ty : TypeId) (xv : Value) (e : TypeId) (n c : Nat) (nvals : List Value) : Prop where
  zero : c = 0 → ∀ (base : Option Addr) (cap : Nat), n ≤ cap → (Builtin.append_ ts ty #[.slice base n cap, xv]).run P w = .ok (.slice base n cap) w
  nil : ∀ (i : TypeInfo) (z : Value), P.info? e = some i → i.zero = some z → nvals.length = c * i.size → 0 < c → (c : Int) ≤ 9223372036854775807 → c * i.bytes ≤ 281474976710656 →
    (Builtin.append_ ts ty #[.slice none 0 0, xv]).run P w = .ok (.slice (some ⟨w.heap.size, 0, none⟩) c (grownCap w c 0 e)) (w.drew.alloc (.cells (nvals.toArray ++ Builtin.zeroCells z.cells (grownCap w c 0 e - c)) e))
  room : 0 < c → ∀ (i : TypeInfo), P.info? e = some i → nvals.length = c * i.size → ∀ (g cap : Nat) (cur : Array Value), w.heap[g]? = some (.cells cur e (0, 0)) → (∀ v ∈ nvals, v.oneCell' = true) → n + c ≤ cap → n * i.size + nvals.length ≤ cur.size →
    (Builtin.append_ ts ty #[.slice (some ⟨g, 0, none⟩) n cap, xv]).run P w = .ok (.slice (some ⟨g, 0, none⟩) (n + c) cap) (w.setRow g (cur.toList.take (n * i.size) ++ nvals ++ cur.toList.drop (n * i.size + nvals.length)).toArray)
  grow : 0 < c → ∀ (i : TypeInfo) (z : Value), P.info? e = some i → i.zero = some z → nvals.length = c * i.size → ∀ (bb : Addr) (cap : Nat) (olds : List Value), olds.length = n * i.size → (∀ j v, olds[j]? = some v → w.cell? (bb.add j) = some v) →
    cap < n + c → ((n + c : Nat) : Int) ≤ 9223372036854775807 → Builtin.nextslicecap (n + c) cap * i.bytes ≤ 281474976710656 →
    (Builtin.append_ ts ty #[.slice (some bb) n cap, xv]).run P w = .ok (.slice (some ⟨w.heap.size, 0, none⟩) (n + c) (grownCap w (n + c) cap e))
        (w.drew.alloc (.cells (olds.toArray ++ nvals.toArray ++ Builtin.zeroCells z.cells (grownCap w (n + c) cap e - (n + c))) e))

theorem append_core {s : Nat} {x : Operand} {ts : Array TypeId} {e : TypeId} {sv xv : Value} {sc : AC} {st' : St} {ow o' : Ow} {keep : Bool} {n c : Nat} {cells new : List AC}
    (ho : o.op = .call { callee := .builtin .append, args := #[.tmp s, x], argTypes := ts }) (hsv' : a.eval (.tmp s) = sv) (hxv : a.eval x = xv) (hsrc : ∀ L1, Rep C.P w Pr (b :: C.bl0) sc xv L1 → ∃ nvals Ln, Reps C.P w Pr [] new nvals Ln ∧ (∀ x, Ln.count x ≤ L1.count x) ∧ (∀ v ∈ nvals, v.oneCell' = true) ∧ AppRuns C.P w ts o.type xv e n c nvals)
    (hS : SR C st' a w Pr b (sc :: .sl ow n cells :: xs) (xv :: sv :: vs)) (how : appOw keep e ow = some o') (hpos : 0 < C.P.cellsOf e) (hzs : zeroLen C.P e) (hmax : n + c ≤ maxLen)
    (hby : (n + c) * C.P.bytesOf e ≤ 140737488355328) (hnl : new.length = c * C.P.cellsOf e) (hk : k (.sl o' (n + c) (cells ++ new)) st')
    (hgo : ∀ av v' w' Pr', k av st' → SR C st' a w' Pr' b (av :: xs) (v' :: vs) → (execOp a.eval o).run C.P w = .ok (.value v') w' → o.wp C.P a w next Q) : o.wp C.P a w next Q := by
    obtain ⟨kp, ho2, how2⟩ := appOw_cases how
    clear how
    subst ho2
    have how := how2
    clear how2
    have hzx : ∃ zc, zeroOf C.P e = some zc ∧ zc.length = C.P.cellsOf e := by
      unfold zeroLen at hzs
      cases hz0 : zeroOf C.P e with
      | none => simp [hz0] at hzs
      | some zc => simp [hz0] at hzs; exact ⟨zc, rfl, hzs⟩
    obtain ⟨zc, hzc, hzcl⟩ := hzx
    obtain ⟨i, z, hi, hzz, hzeq⟩ := info_of_zero hzc
    have hsz : C.P.cellsOf e = i.size := cellsOf_info hi
    have hbz : C.P.bytesOf e = i.bytes := by simp [Program.bytesOf, hi]
    obtain ⟨Le, Ll, Lx, Lk, hl⟩ := hS
    have hreg := hl.reg
    cases hreg with
    | cons r1 rest =>
      rename_i L1 M1
      cases rest with
      | cons r2 r3 =>
        rename_i L2 Lx'
        have hrun0 : (execOp a.eval o).run C.P w = (((Builtin.append_ ts o.type #[sv, xv]).run C.P w).andThen fun v w' => .ok (.value v) w') := by
          simp [execOp, ho, resolve, invoke, builtin, hsv', hxv]
        have hbase : SRL C st' a w Pr b xs vs Le Ll Lx' Lk := { hl with
          reg := r3
          cnt := fun x => by have := hl.cnt x; simp only [List.count_append] at this ⊢; omega
          new := fun x hx => hl.new x (by simp only [List.count_append] at hx ⊢; omega) }
        have hcnt : ∀ x, L1.count x + L2.count x + Le.count x + Ll.count x + Lx'.count x + Lk.count x + (b :: C.bl0).flatten.count x ≤ 1 := fun x => by
          have := hl.cnt x; simp only [List.count_append] at this; omega
        have hnew : ∀ x, 0 < L1.count x + L2.count x → x ∈ C.F ∨ C.w0.heap.size ≤ x := fun x hx => hl.new x (by simp only [List.count_append]; omega)
        obtain ⟨nvals, Ln, g1, gc, g2, hR⟩ := hsrc L1 r1
        rcases Nat.eq_zero_or_pos c with hc0 | hcpos
        · -- nothing is appended
          subst hc0
          have hnew0 : new = [] := List.eq_nil_of_length_eq_zero (by simpa using hnl)
          subst hnew0
          rw [List.append_nil, Nat.add_zero] at hk
          have hsl : ∃ base cap, sv = .slice base n cap ∧ n ≤ cap := by
            cases r2 with
            | slNo h1 h2 h3 h4 h5 => exact ⟨_, _, rfl, h4⟩
            | slNil => exact ⟨_, _, rfl, Nat.le_refl _⟩
            | slOf h1 h2 h3 h4 => exact ⟨_, _, rfl, h4⟩
            | slEx h1 h2 h3 h4 => exact ⟨_, _, rfl, h4⟩
          obtain ⟨base, cap, rfl, hle⟩ := hsl
          have r2' : Rep C.P w Pr (b :: C.bl0) (.sl (if kp = true then .ex e else .of e) n cells) (.slice base n cap) L2 := by
            rcases how with rfl | ⟨rfl, rfl⟩ | ⟨rfl, rfl⟩
            · cases r2 with
              | slNil => exact .slNil
            · exact r2
            · exact r2
          refine hgo _ _ w Pr hk (SR.back (Lu := L2) hbase r2' (fun x => by have := hcnt x; omega) (fun x hx => hnew x (by omega)) (fun x => Nat.le_refl _)) ?_
          rw [hrun0, hR.zero rfl base cap hle]; rfl
        · -- something is appended
          · have hnv : nvals.length = c * i.size := by rw [← g1.length, hnl, hsz]
            have newRow : ∀ (ovals : List Value) (Lo : List Nat) (old : Nat), Reps C.P w Pr [] cells ovals Lo → (∀ v ∈ ovals, v.oneCell' = true) → ovals.length = n * i.size → (∀ x, Lo.count x ≤ L2.count x) →
                ∀ arr : Array Value, arr = ovals.toArray ++ nvals.toArray ++ Builtin.zeroCells z.cells (grownCap w (n + c) old e - (n + c)) →
                SR C st' a (w.drew.alloc (.cells arr e)) (fun p => Pr p ∨ (kp = false ∧ p.block = w.drew.heap.size ∧ p.spot = none ∧ p.off < (n + c) * C.P.cellsOf e)) b (.sl (if kp = true then .ex e else .of e) (n + c) (cells ++ new) :: xs) (.slice (some ⟨w.drew.heap.size, 0, none⟩) (n + c) (grownCap w (n + c) old e) :: vs) := by
              intro ovals Lo old q1 q2 q3 q4 arr harr
              have hge := grownCap_ge w (n + c) old e
              have hz : z.cells.size = i.size := by
                have : (zc).length = z.cells.size := by rw [hzeq]; simp
                omega
              refine SR.newRowCap kp (L0 := Lo ++ Ln) (vals := ovals ++ nvals) hbase.drew ?_ ?_ hpos ?_ hge (grownCap_le_maxLen w (n + c) old e hmax) ?_ (fun x => ?_) (fun x hx => ?_)
              · have hp : ∀ p, Pr p → Pr p ∧ w.drew.cell? p = w.cell? p := fun p hp => ⟨hp, rfl⟩
                exact (q1.append g1).kept hp fun x _ => ⟨rfl, fun p hp _ => hp⟩
              · intro v hv
                rcases List.mem_append.1 hv with hv | hv
                · exact q2 v hv
                · exact g2 v hv
              · rw [harr]; simp only [Array.size_append, List.size_toArray, size_zeroCells, q3, hnv, hz, hsz, ← Nat.add_mul]; congr 1; omega
              · rw [harr, hsz]
                simp only [Array.toList_append, List.append_assoc]
                have e1 : (n + c) * i.size = (ovals ++ nvals).length := by rw [List.length_append, q3, hnv, Nat.add_mul]
                rw [e1, ← List.append_assoc]; exact List.take_left
              · have := hcnt x; have := q4 x; have := gc x; simp only [List.count_append] at *; omega
              · exact hnew x (by have := q4 x; have := gc x; simp only [List.count_append] at *; omega)
            have hby' : (n + c) * i.bytes ≤ 140737488355328 := by rw [← hbz]; exact hby
            have nilCase : sv = .slice none 0 0 → n = 0 → cells = [] → o.wp C.P a w next Q := by
              intro e1 e2 e3
              subst e2; subst e3
              have hr := hR.nil i z hi hzz hnv hcpos (by unfold maxLen at hmax; omega) (by rw [Nat.zero_add] at hby'; omega)
              have hN := newRow [] [] 0 .nil (by simp) (by simp) (fun x => by simp) _ rfl
              simp only [Nat.zero_add, List.nil_append] at hN hk
              refine hgo _ _ _ _ hk hN ?_
              rw [hrun0, e1, hr]
              simp
            have key : (sv = .slice none 0 0 ∧ n = 0 ∧ cells = []) ∨ ∃ ovals g cap Lo cur, sv = .slice (some ⟨g, 0, none⟩) n cap ∧ L2 = g :: Lo ∧ Reps C.P w Pr [] cells ovals Lo ∧ (∀ v ∈ ovals, v.oneCell' = true) ∧
                w.heap[g]? = some (.cells cur e (0, 0)) ∧ n ≤ cap ∧ cap ≤ maxLen ∧ cur.size = cap * C.P.cellsOf e ∧ cur.toList.take (n * C.P.cellsOf e) = ovals ∧
                (∀ q, Pr q → q.block = g → q.off < n * C.P.cellsOf e) ∧ (kp = true → ∀ q, Pr q → q.block ≠ g) := by
              rcases how with rfl | ⟨rfl, rfl⟩ | ⟨rfl, rfl⟩
              · cases r2 with
                | slNil => exact .inl ⟨rfl, rfl, rfl⟩
              · cases r2 with
                | slNil => exact .inl ⟨rfl, rfl, rfl⟩
                | slOf h1 h2 h3 h4 h5 h6 h7 h8 h9 h10 => exact .inr ⟨_, _, _, _, _, rfl, rfl, h1, h2, h3, h4, h5, h7, h8, h9, fun h => by cases h⟩
              · cases r2 with
                | slNil => exact .inl ⟨rfl, rfl, rfl⟩
                | slEx h1 h2 h3 h4 h5 h6 h7 h8 h9 => exact .inr ⟨_, _, _, _, _, rfl, rfl, h1, h2, h3, h4, h5, h7, h8, fun q hq hb => absurd hb (h9 q hq), fun _ => h9⟩
            rcases key with ⟨e1, e2, e3⟩ | ⟨ovals, g, cap, Lo, cur, rfl, rfl, h1, h2, h3, h4, h5, h7, h8, h9, h10⟩
            · exact nilCase e1 e2 e3
            · skip
              have hov : ovals.length = n * i.size := by
                rw [← h8, List.length_take, Array.length_toList, h7, hsz]
                exact Nat.min_eq_left (Nat.mul_le_mul_right _ h4)
              by_cases hroom : n + c ≤ cap
              · -- in place
                have hfit : n * i.size + nvals.length ≤ cur.size := by rw [hnv, h7, hsz, ← Nat.add_mul]; exact Nat.mul_le_mul_right _ hroom
                have hr := hR.room hcpos i hi hnv g cap cur h3 g2 hroom hfit
                have hcs : (cur.toList.take (n * i.size)) = ovals := by rw [← hsz]; exact h8
                generalize hcur' : (cur.toList.take (n * i.size) ++ nvals ++ cur.toList.drop (n * i.size + nvals.length)).toArray = cur' at hr
                have hcsz : cur'.size = cap * C.P.cellsOf e := by
                  rw [← hcur', ← h7]
                  simp only [List.size_toArray, List.length_append, List.length_take, List.length_drop, Array.length_toList]
                  omega
                have hpre : ∀ j, j < n * i.size → cur'[j]? = cur[j]? := by
                  intro j hj
                  rw [← hcur', List.getElem?_toArray, List.append_assoc, List.getElem?_append_left (by rw [hcs, hov]; exact hj), List.getElem?_take, if_pos hj]
                  simp
                have hp : ∀ q, Pr q → (Pr q ∨ (kp = false ∧ q.block = g ∧ q.spot = none ∧ q.off < (n + c) * C.P.cellsOf e)) ∧ (w.setRow g cur').cell? q = w.cell? q := by
                  intro q hq
                  refine ⟨.inl hq, ?_⟩
                  by_cases hqb : q.block = g
                  · exact cell_prefix h3 hqb (hpre _ (by rw [← hsz]; exact h9 q hq hqb))
                  · exact cell_setRow_other w g _ q hqb
                have hkp : ∀ y, y ≠ g → Kept w Pr (w.setRow g cur') (fun q => Pr q ∨ (kp = false ∧ q.block = g ∧ q.spot = none ∧ q.off < (n + c) * C.P.cellsOf e)) y :=
                  fun y hy => ⟨setRow_other w g y _ hy, fun q hq e => by rcases hq with hq | ⟨_, hq, _⟩; exact hq; exact absurd (e.symm.trans hq) hy⟩
                have hne : ∀ y, 0 < Lo.count y + L1.count y + Le.count y + Ll.count y + Lx'.count y + Lk.count y + (b :: C.bl0).flatten.count y → y ≠ g := by
                  intro y hy e; subst e
                  have := hcnt y
                  rw [List.count_cons_self] at this
                  omega
                have hgF : g ∈ C.F ∨ C.w0.heap.size ≤ g := hnew g (by rw [List.count_cons_self]; omega)
                have hs := hl.since
                have g1' := g1.kept hp fun y hy => hkp y (hne y (by have := List.count_pos_iff.2 hy; have := gc y; omega))
                have h1' := h1.kept hp fun y hy => hkp y (hne y (by have := List.count_pos_iff.2 hy; omega))
                refine hgo _ (.slice (some ⟨g, 0, none⟩) (n + c) cap) (w.setRow g cur') (fun q => Pr q ∨ (kp = false ∧ q.block = g ∧ q.spot = none ∧ q.off < (n + c) * C.P.cellsOf e)) hk ?_ (by rw [hrun0, hr]; rfl)
                refine ⟨Le, Ll, (g :: (Lo ++ Ln)) ++ Lx', Lk, ⟨?_, ?_, ?_, ?_, fun y => ?_, fun y hy => ?_, hl.kE, hl.kL, fun q hq => ?_, ⟨hs.os, hs.tape, hs.output, (by simpa using hs.size), fun y hy hF => ?_, fun q hq => ?_, fun q hq => ?_⟩, hl.defers, hl.size⟩⟩
                · exact hl.env.kept hp fun y hy => hkp y (hne y (by have := List.count_pos_iff.2 hy; omega))
                · exact hl.loc.kept hp fun y hy => hkp y (hne y (by have := List.count_pos_iff.2 hy; omega))
                · refine Reps.cons ?_ (r3.kept hp fun y hy => hkp y (hne y (by have := List.count_pos_iff.2 hy; omega)))
                  have e1 : (n + c) * i.size = (ovals ++ nvals).length := by rw [List.length_append, hov, hnv, Nat.add_mul]
                  have hone : ∀ v ∈ ovals ++ nvals, v.oneCell' = true := fun v hv => by
                    rcases List.mem_append.1 hv with hv | hv
                    · exact h2 v hv
                    · exact g2 v hv
                  have htk : cur'.toList.take ((n + c) * C.P.cellsOf e) = ovals ++ nvals := by
                    rw [← hcur', hcs, hsz, e1]; exact List.take_left
                  cases kp with
                  | false =>
                    refine .slOf (cur := cur') (h1'.append g1') hone (setRow_heap w g cur cur' e _ h3) hroom h5 hpos hcsz htk ?_ ?_
                    · rintro q (hq | ⟨_, _, _, hq⟩) e
                      · have := h9 q hq e
                        rw [Nat.add_mul]; omega
                      · exact hq
                    · intro j hj; exact .inr ⟨rfl, rfl, rfl, hj⟩
                  | true =>
                    refine .slEx (cur := cur') (h1'.append g1') hone (setRow_heap w g cur cur' e _ h3) hroom h5 hpos hcsz htk ?_
                    rintro q (hq | ⟨hq, _⟩) e
                    · exact h10 rfl q hq e
                    · cases hq
                · exact hl.K.kept hp (fun y hy => hkp y (hne y (by have := List.count_pos_iff.2 hy; omega))) (fun y hy => hkp y (hne y (by have := List.count_pos_iff.2 hy; omega)))
                · have := hcnt y; have := gc y
                  simp only [List.cons_append, List.count_cons, List.count_append] at *
                  omega
                · have := gc y
                  by_cases h0 : 0 < (g :: Lo).count y + L1.count y
                  · exact hnew y (by omega)
                  · refine hbase.new y ?_
                    simp only [List.cons_append, List.count_cons, List.count_append] at *
                    omega
                · rcases hq with hq | ⟨_, hq, _⟩
                  · simpa using hl.prlt q hq
                  · rw [hq]; simpa using (Array.getElem?_eq_some_iff.1 h3).1
                · exact (setRow_other w g y _ (fun e => by subst e; rcases hgF with h | h; exact hF h; omega)).trans (hs.block y hy hF)
                · exact ⟨.inl (hs.prot q hq).1, ((hp q (hs.prot q hq).1).2).trans (hs.prot q hq).2⟩
                · rcases hq with hq | ⟨_, hq, _⟩
                  · exact hs.newPr q hq
                  · rw [hq]; rcases hgF with h | h
                    · exact .inr (.inl h)
                    · exact .inr (.inr h)
              · -- a new row
                have holds : ∀ j u, ovals[j]? = some u → w.cell? ((⟨g, 0, none⟩ : Addr).add j) = some u := by
                  intro j u hj
                  rw [Addr.add_lit, Nat.zero_add, cell_of_row w _ _ _ _ _ h3]
                  rw [← h8, List.getElem?_take] at hj
                  split at hj
                  · simpa using hj
                  · cases hj
                have hr := hR.grow hcpos i z hi hzz hnv ⟨g, 0, none⟩ cap ovals hov holds (by omega) (by unfold maxLen at hmax; omega) (growslice_fits (by omega) hby')
                refine hgo _ _ _ _ hk (newRow ovals Lo cap h1 h2 hov (fun x => by rw [List.count_cons]; omega) _ rfl) ?_
                rw [hrun0, hr]; rfl

theorem src_slice {t ty e : TypeId} {bl : List (List Nat)} {ow2 : Ow} {n c : Nat} {new : List AC} {xv : Value} (hu : P.underlying t = some (.slice e)) (hpos : 0 < P.cellsOf e) (L1 : List Nat) (r1 : Rep P w Pr bl (.sl ow2 c new) xv L1) :
    ∃ nvals Ln, Reps P w Pr [] new nvals Ln ∧ (∀ x, Ln.count x ≤ L1.count x) ∧ (∀ v ∈ nvals, v.oneCell' = true) ∧ AppRuns P w #[t, t] ty xv e n c nvals := by
  rcases rep_src r1 with ⟨cap, rfl, rfl, rfl⟩ | ⟨p, c2, nvals, Ln, rfl, g1, gc, g2, g3⟩
  · exact ⟨[], [], .nil, fun x => by simp, by simp, ⟨fun _ base cap h => run_append_zero hu hpos h, fun i z _ _ _ h => absurd h (by omega), fun h => absurd h (by omega), fun h => absurd h (by omega)⟩⟩
  · exact ⟨nvals, Ln, g1, gc, g2, ⟨fun h base cap hn => by subst h; exact run_append_zero hu hpos hn, fun i z hi hz hl h0 h63 h48 => run_append_nil w t ty e i z hu hi hz p c c2 nvals hl g3 h0 h63 h48,
      fun _ i hi hl g cap cur hg h1 h2 h3 => run_append_room w t ty e i hu hi g n cap cur hg p c c2 nvals hl g3 h1 h2 h3,
      fun _ i z hi hz hl bb cap olds h1 h2 h3 h4 h5 => run_append_grow w t ty e i z hu hi hz bb n cap olds h1 h2 p c c2 nvals hl g3 h3 h4 h5⟩⟩
theorem reps_bytes {bl : List (List Nat)} : ∀ s : List UInt8, Reps P w Pr bl (byteCells s) (s.map fun b => Value.int .u8 b.toNat) [] := by
  intro s; induction s with
  | nil => exact .nil
  | cons b s ih => exact Reps.cons (L := []) (M := []) .int ih
theorem run_append_zero_string {t u ty e : TypeId} (ht : P.underlying t = some (.slice e)) (hu : P.underlying u = some .string) (hpos : 0 < P.cellsOf e) {base : Option Addr} {n cap : Nat} {s : ByteArray} (h0 : s.size = 0) (hn : n ≤ cap) :
    (Builtin.append_ #[t, u] ty #[.slice base n cap, .string s]).run P w = .ok (.slice base n cap) w := by
  cases base <;> simp [Builtin.append_, run_underlying ht, run_underlying hu, run_sizeOf_of hpos, Builtin.lenOf, hn, h0, Builtin.firstCells, loadCells, loadCellsFrom, storeCells]
theorem src_string {t u ty e : TypeId} {bl : List (List Nat)} {n : Nat} {ss : List UInt8} {xv : Value} (ht : P.underlying t = some (.slice e)) (hu : P.underlying u = some .string) (h1 : P.cellsOf e = 1) (L1 : List Nat) (r1 : Rep P w Pr bl (.str ss) xv L1) :
    ∃ nvals Ln, Reps P w Pr [] (byteCells ss) nvals Ln ∧ (∀ x, Ln.count x ≤ L1.count x) ∧ (∀ v ∈ nvals, v.oneCell' = true) ∧ AppRuns P w #[t, u] ty xv e n ss.length nvals := by
  cases r1 with
  | str e1 hl =>
    rename_i bs
    subst e1
    have hs : bs.size = bs.data.toList.length := rfl
    have hi1 : ∀ i, P.info? e = some i → i.size = 1 := fun i hi => by rw [← h1]; exact (cellsOf_info hi).symm
    have hsc : Lib.strCells bs = bs.data.toList.map fun b => Value.int .u8 b.toNat := rfl
    refine ⟨_, [], reps_bytes _, fun x => by simp, by simp; intro b hb; rfl, ⟨fun h base cap hn => run_append_zero_string ht hu (by omega) (by rw [hs]; exact h) hn, ?_, ?_, ?_⟩⟩
    · intro i z hi hz hlen h0 h63 h48
      have := run_append_nil_string (P := P) w t u ty e i z ht hu hi hz bs (by rw [hs]; exact h0) (by rw [hs]; exact h63) (by rw [hs]; exact h48)
      rw [hs] at this
      rw [this]
      congr 5
      apply Array.ext'; simp
    · intro _ i hi hlen g cap cur hg hone hroom hfit
      have := Lib.run_append_room_string (P := P) (w := w) t u ty e i ht hu hi (hi1 i hi) g n cap cur hg bs (by rw [hs]; exact hroom) (by rw [hi1 i hi, List.length_map] at hfit; rw [hs]; omega)
      rw [hs, hsc] at this
      rw [this, hi1 i hi, List.length_map, Nat.mul_one]
    · intro _ i z hi hz hlen bb cap olds h1 h2 h3 h4 h5
      have := Lib.run_append_grow_string (P := P) (w := w) t u ty e i z ht hu hi hz bb n cap olds h1 h2 bs (by rw [hs]; exact h3) (by rw [hs]; exact h4) (by rw [hs]; exact h5)
      rw [hs, hsc] at this
      exact this

theorem s_append {s : Nat} {x : Operand} {t : TypeId} (ho : o.op = .call { callee := .builtin .append, args := #[.tmp s, x], argTypes := #[t, t] }) (h : SR C st a w Pr b xs vs) (hg : gOk gd) {keep : Bool}
    (hm : m = true) (hD : Abs.wT C.fi m gd (st.weak s) x fun v st' => wAppend C.P keep (tdOf C.P t) (st.get s) v fun v => k v st') (hn : Goes C m st b a xs vs o.dst next k) : o.wp C.P a w next Q := by
  have h0 := h.take s
  obtain ⟨v, st', hk, hS, hKe, _⟩ := h0.wT hD hg
  have hgo : ∀ av v' w' Pr', k av st' → SR C st' a w' Pr' b (av :: xs) (v' :: vs) → (execOp a.eval o).run C.P w = .ok (.value v') w' → o.wp C.P a w next Q :=
    fun av v' w' Pr' hk hS hr => wp_val hr (hn _ _ _ _ _ _ hk hS fun e => by rw [hm] at e; cases e)
  generalize hsv : a.tmps.getD s undef = sv at hS
  have hsv' : a.eval (.tmp s) = sv := hsv
  generalize hxv : a.eval x = xv at hS
  unfold wAppend at hk
  split at hk
  · rename_i td s0 v0 e ow n cells ow2 c new htd hs
    split at hk
    · rename_i o' how
      obtain ⟨hpos, hzs, hmax, hby, hnl, hk⟩ := hk
      rw [hs] at hS
      exact append_core ho hsv' hxv (src_slice (tdOf_slice htd) hpos) hS how hpos hzs hmax hby hnl hk hgo
    · exact hk.elim
  · rename_i td s0 v0 e y ow n cells ow2 c new htd hs
    split at hk
    · rename_i o' how
      obtain ⟨hpos, hzs, hmax, hby, hnl, hk⟩ := hk
      rw [hs] at hS
      have hS2 : SR C st' a w Pr b (.sl ow2 c new :: .sl ow n cells :: xs) (xv :: sv :: vs) := by
        obtain ⟨Le, Ll, Lx, Lk, hl⟩ := hS
        have hreg := hl.reg
        cases hreg with
        | cons r1 rest =>
          cases rest with
          | cons r2 r3 => exact ⟨_, _, _, _, { hl with reg := .cons r1 (.cons r2.nam_inv r3) }⟩
      exact append_core ho hsv' hxv (src_slice (tdOf_slice htd) hpos) hS2 how hpos hzs hmax hby hnl hk hgo
    · exact hk.elim
  · exact hk.elim
theorem s_appendS {s : Nat} {x : Operand} {t u : TypeId} (ho : o.op = .call { callee := .builtin .append, args := #[.tmp s, x], argTypes := #[t, u] }) (h : SR C st a w Pr b xs vs) (hg : gOk gd) {keep : Bool} (hu : tdOf C.P u = .str)
    (hm : m = true) (hD : Abs.wT C.fi m gd (st.weak s) x fun v st' => wAppendS C.P keep (tdOf C.P t) (st.get s) v fun v => k v st') (hn : Goes C m st b a xs vs o.dst next k) : o.wp C.P a w next Q := by
  have h0 := h.take s
  obtain ⟨v, st', hk, hS, hKe, _⟩ := h0.wT hD hg
  have hgo : ∀ av v' w' Pr', k av st' → SR C st' a w' Pr' b (av :: xs) (v' :: vs) → (execOp a.eval o).run C.P w = .ok (.value v') w' → o.wp C.P a w next Q :=
    fun av v' w' Pr' hk hS hr => wp_val hr (hn _ _ _ _ _ _ hk hS fun e => by rw [hm] at e; cases e)
  generalize hsv : a.tmps.getD s undef = sv at hS
  have hsv' : a.eval (.tmp s) = sv := hsv
  generalize hxv : a.eval x = xv at hS
  unfold wAppendS at hk
  split at hk
  · rename_i td s0 v0 e ow n cells ss htd hs
    split at hk
    · rename_i o' how
      obtain ⟨h1, hzs, hmax, hby, hk⟩ := hk
      rw [hs] at hS
      exact append_core ho hsv' hxv (src_string (tdOf_slice htd) (tdOf_str hu) h1) hS how (by omega) hzs hmax hby (by unfold byteCells; rw [List.length_map, h1, Nat.mul_one]) hk hgo
    · exact hk.elim
  · exact hk.elim
end
end Go.Proofs.YtkpdlbidadcdjaaDoor.Abs
