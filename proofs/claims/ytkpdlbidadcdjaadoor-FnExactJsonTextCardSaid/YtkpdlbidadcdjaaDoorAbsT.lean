/- Words for the symbolic evaluation. No condition. -/
import Derived.Test.YtkpdlbidadcdjaaDoorAbsS
set_option linter.unusedVariables false
set_option linter.unusedSimpArgs false
namespace Go.Proofs.YtkpdlbidadcdjaaDoor.Abs
open Go

/-- A function's contract by its body. -/
theorem ct_fn {P : Program} {f : FuncId} {fn : Func} {c : Code} {args : List AC} {K K' : List (List (List AC))} {r : AC} (fi : FI) (hf : P.funcs[f]? = some fn) (hb : fn.body = some c)
    (hname : (fn.name == "runtime.NumGoroutine") = false) (hd : dstOk fn.ntmps c = true) (hl : (Nat.ble args.length fi.n0 && Nat.ble args.length fn.ntmps) = true)
    (h : wC P fi c (retQ P fn.results.toList r K') { env := argEnv 0 args, loc := [], K := [] :: K }) (ht : fi.th = [] ∨ (K = [] ∧ args.all noOwn = true) := by exact .inl rfl) : Ct P f args K r K' := by
  simp only [Bool.and_eq_true] at hl
  exact ct_body fi hf hb hname hd ⟨Nat.le_of_ble_eq_true hl.1, Nat.le_of_ble_eq_true hl.2⟩ h ht
/-- What a function does without boxes from outside, it does beside any. -/
theorem Ct.frame {P : Program} {f : FuncId} {args : List AC} {r : AC} (h : Ct P f args [] r []) (ha : args.all flat = true) (hr : flat r = true) (K : List (List (List AC))) : Ct P f args K r K := by
  refine ⟨h.1, ?_⟩
  intro w Pr bl vals La Lk hA hK hcnt hlt htab
  refine (h.2 w Pr [] vals La [] (hA.flat ha) ⟨rfl, rfl⟩ (fun x => by have := hcnt x; simp only [List.count_append, List.flatten_nil, List.count_nil] at *; omega) hlt htab).mono ?_
  rintro e w' ⟨v, Pr', Lr, Lk', bl', rfl, hext, hrep, hK', hc, hn, hlt', hs⟩
  have hbl : bl' = [] := by
    rcases hext with e | ⟨b, r, gs, e, _⟩
    · exact e
    · cases e
  subst hbl
  obtain ⟨_, rfl⟩ := hK'
  simp only [List.append_nil, List.flatten_nil] at hs hn hc
  have hLlt : ∀ x ∈ Lk ++ bl.flatten, x < w.heap.size := fun x hx => by
    rcases List.mem_append.1 hx with hx | hx
    · exact hK.own_lt x hx
    · exact hK.box_lt x hx
  have hLa : ∀ x ∈ Lk ++ bl.flatten, x ∉ La := fun x hx hm => by
    have := hcnt x; have := List.count_pos_iff.2 hx; have := List.count_pos_iff.2 hm
    simp only [List.count_append] at *; omega
  have hkept : ∀ x ∈ Lk ++ bl.flatten, Kept w Pr w' Pr' x := fun x hx => ⟨hs.block x (hLlt x hx) (hLa x hx), fun a ha e => by
    rcases hs.newPr a ha with h1 | h1 | h1
    · exact h1
    · rw [e] at h1; exact absurd h1 (hLa x hx)
    · rw [e] at h1; have := hLlt x hx; omega⟩
  refine ⟨v, Pr', Lr, Lk, bl, rfl, .inl rfl, hrep.flat hr, hK.kept hs.prot (fun g hg => hkept g (List.mem_append_left _ hg)) (fun g hg => hkept g (List.mem_append_right _ hg)), fun x => ?_, fun x hx => ?_, hlt',
    ⟨hs.os, hs.tape, hs.output, hs.size, fun x hx hxF => hs.block x hx (fun hm => hxF (by simp only [List.mem_append]; exact .inl (.inl hm))), hs.prot, fun a ha => ?_⟩⟩
  · have c1 := hcnt x; have c2 := hc x
    simp only [List.count_append] at *
    by_cases hx : 0 < Lr.count x
    · rcases hn x (List.count_pos_iff.1 hx) with hm | hm
      · have := List.count_pos_iff.2 hm; omega
      · have : (Lk ++ bl.flatten).count x = 0 := List.count_eq_zero.2 fun hm' => by have := hLlt x hm'; omega
        simp only [List.count_append] at this; omega
    · omega
  · rcases List.mem_append.1 hx with hx | hx
    · rcases hn x hx with hm | hm
      · exact .inl (List.mem_append_left _ hm)
      · exact .inr hm
    · exact .inl (List.mem_append_right _ hx)
  · rcases hs.newPr a ha with h1 | h1 | h1
    · exact .inl h1
    · exact .inr (.inl (by simp only [List.mem_append]; exact .inl (.inl h1)))
    · exact .inr (.inr h1)

theorem AC.le_bool {a b : Bool} : AC.le (.bool a) (.bool b) ↔ b = a := by
  constructor
  · intro h
    generalize h1 : AC.bool a = x at h
    generalize h2 : AC.bool b = y at h
    cases h <;> first | (subst h1; cases h2; rfl) | (cases h1; done) | (cases h2; done) | (subst h1; simp [Abs.share, Abs.unx] at h2; exact h2)
  · rintro rfl; exact .refl
theorem AC.le_int {k : IntKind} {a b : Int} : AC.le (.int k a) (.int k b) ↔ b = a := by
  constructor
  · intro h
    generalize h1 : AC.int k a = x at h
    generalize h2 : AC.int k b = y at h
    cases h <;> first | (subst h1; cases h2; rfl) | (cases h1; done) | (cases h2; done) | (subst h1; simp [Abs.share, Abs.unx] at h2; exact h2)
  · rintro rfl; exact .refl
theorem AC.le_str {a b : List UInt8} : AC.le (.str a) (.str b) ↔ b = a := by
  constructor
  · intro h
    generalize h1 : AC.str a = x at h
    generalize h2 : AC.str b = y at h
    cases h <;> first | (subst h1; cases h2; rfl) | (cases h1; done) | (cases h2; done) | (subst h1; simp [Abs.share, Abs.unx] at h2; exact h2)
  · rintro rfl; exact .refl
theorem AC.le_self {a : AC} : AC.le a a := .refl
theorem AC.le_undef {a : AC} : AC.le a .undef := .undef
theorem AC.le_share {a : AC} : AC.le a (Abs.share a) := .share
theorem AC.le_nil {o : Ow} : AC.le (.sl .nil 0 []) (.sl o 0 []) := .nil
theorem AC.leL_get : ∀ {cs ds : List AC}, AC.leL cs ds → cs.length = ds.length ∧ ∀ (i : Nat) (h : i < cs.length) (h' : i < ds.length), AC.le cs[i] ds[i] := by
  intro cs
  induction cs with
  | nil => intro ds h; cases ds with
    | nil => exact ⟨rfl, fun i h => by simp at h⟩
    | cons d ds => exact h.elim
  | cons c cs ih => intro ds h; cases ds with
    | nil => exact h.elim
    | cons d ds =>
      obtain ⟨h1, h2⟩ := ih h.2
      refine ⟨by simp [h1], fun i h' h'' => ?_⟩
      cases i with
      | zero => exact h.1
      | succ i => exact h2 i (by simpa using h') (by simpa using h'')
theorem AC.leL_refl : ∀ {cs : List AC}, AC.leL cs cs := by
  intro cs
  induction cs with
  | nil => trivial
  | cons c cs ih => exact ⟨.refl, ih⟩
theorem AC.leL_app {a b c d : List AC} (h1 : AC.leL a c) (h2 : AC.leL b d) : AC.leL (a ++ b) (c ++ d) := by
  induction a generalizing c with
  | nil => cases c with
    | nil => exact h2
    | cons _ _ => exact h1.elim
  | cons x a ih => cases c with
    | nil => exact h1.elim
    | cons y c => exact ⟨h1.1, ih h1.2⟩
theorem AC.le_sl {o : Ow} {n : Nat} {cs ds : List AC} (h : AC.leL cs ds) : AC.le (.sl o n cs) (.sl o n ds) := .sl (AC.leL_get h).1 (AC.leL_get h).2
theorem AC.le_agg {cs ds : List AC} (h : AC.leL cs ds) : AC.le (.agg cs) (.agg ds) := .agg (AC.leL_get h).1 (AC.leL_get h).2

theorem retQ_ret {P : Program} {rs : List ResultVar} {r : AC} {K' : List (List (List AC))} {st : St} : retQ P rs r K' .ret st = retOk P rs st r K' := rfl
theorem retQ_normal {P : Program} {rs : List ResultVar} {r : AC} {K' : List (List (List AC))} {st : St} : retQ P rs r K' .normal st = retOk P rs st r K' := rfl
theorem retQ_exit {P : Program} {rs : List ResultVar} {r : AC} {K' : List (List (List AC))} {st : St} {i : Nat} : retQ P rs r K' (.exit i) st = False := rfl

/-- A loop. -/
theorem wC_loop {P : Program} {fi : FI} {c : Code} {Q : Exit → St → Prop} {st : St} (I : Nat → St → Prop) (n : Nat) (s0 : St) (h1 : st.le s0) (h2 : I n s0)
    (h3 : ∀ n s, I n s → wC P fi c (seqK (roundK I n (s.K.headD []).length) Q) s) : wC P fi (.loop c) Q st := ⟨I, n, s0, h1, h2, h3⟩

theorem kill_lift {n : Nat} {c : AC} : killP n (liftP 1 c) = liftP 1 c := by
  cases c with
  | ptr u i o => simp [liftP, killP]
  | _ => rfl
theorem kill_lifts {n : Nat} {l : List AC} : l.map (killP n ∘ liftP 1) = l.map (liftP 1) := List.map_congr_left fun c _ => kill_lift
attribute [simp] kill_lift kill_lifts
/-- A loop, the state first. -/
theorem wC_loopI {P : Program} {fi : FI} {c : Code} {Q : Exit → St → Prop} {st : St} (I : Nat → St → Prop) (n : Nat) {s0 : St} (h2 : I n s0) (h1 : st.le s0)
    (h3 : ∀ n s, I n s → wC P fi c (seqK (roundK I n (s.K.headD []).length) Q) s) : wC P fi (.loop c) Q st := ⟨I, n, s0, h1, h2, h3⟩
/-- A loop that counts up to n at most. -/
def forI (S : Nat → St) (n : Nat) : Nat → St → Prop := fun k s => ∃ i, i ≤ n ∧ k = n - i ∧ s = S i
theorem wC_for {P : Program} {fi : FI} {c : Code} {Q : Exit → St → Prop} {st : St} (S : Nat → St) (n : Nat) (h1 : st.le (S 0))
    (h3 : ∀ i, i ≤ n → wC P fi c (seqK (roundK (forI S n) (n - i) ((S i).K.headD []).length) Q) (S i)) : wC P fi (.loop c) Q st := by
  refine ⟨forI S n, n, S 0, h1, ⟨0, Nat.zero_le _, rfl, rfl⟩, ?_⟩
  rintro k s ⟨i, hi, rfl, rfl⟩
  exact h3 i hi
theorem for_next {S : Nat → St} {n i c : Nat} {s : St} (h : i < n) (hle : (s.trunc c).le (S (i + 1))) : roundK (forI S n) (n - i) c s :=
  ⟨n - (i + 1), by omega, _, hle, i + 1, h, rfl, rfl⟩

theorem St.le_of {s t : St} (h1 : (t.env.map (·.1)).Nodup) (h2 : ∀ x ∈ t.env, ∃ u, look x.1 s.env = some u ∧ AC.le u x.2) (h3 : t.loc = []) (h4 : s.K = t.K) : s.le t := by
  refine ⟨h1, fun k v hk => ?_, h3, h4⟩
  have : ∀ l : List (Nat × AC), look k l = some v → (k, v) ∈ l := by
    intro l
    induction l with
    | nil => intro h; simp [look] at h
    | cons x l ih =>
      intro h
      obtain ⟨a, b⟩ := x
      simp only [look] at h
      split at h
      · rename_i e; cases h; subst e; exact List.mem_cons_self
      · exact List.mem_cons_of_mem _ (ih h)
  exact h2 _ (this _ hk)

theorem wC_cond2 {P : Program} {fi : FI} {Q : Exit → St → Prop} {st : St} {c : Operand} {a b : Code} : wC P fi (.cond c a b) Q st = match st.ev c with
    | .bool v => (v = true → wC P fi a Q st) ∧ (v = false → wC P fi b Q st)
    | _ => False := rfl
theorem wOp_some2 {P : Program} {fi : FI} {st : St} {m : Bool} {ops : List Oper} {k : St → Prop} {dst : Option Nat} {op : Go.Op} {ty : TypeId} {pos : String} {after : Array Edge} {g : Nat} {want : Bool} :
    wOp P fi m ops { dst := dst, op := op, type := ty, pos := pos, after := after, guard := some (g, want) } k st = match gVal st ops g want with
    | some b => wDo P fi false (some b) dst op st (optK fi dst b k)
    | none => False := rfl
/-- A region that draws its order. -/
theorem wRun_draw {P : Program} {fi : FI} {k : St → Prop} {st : St} {ops : Array Oper} (kd : Bool) (hm : P.follows .mixedOrders = true) (hck : drawOk { fi with es := false, bw := [], qs := [] } kd ops.toList = true)
    (h : wOpsD P { fi with es := false, bw := [], qs := [], qr := [] } kd ops.toList ops.toList (drawE k) st) : wRun P fi ops true k st :=
  ⟨fun _ => ⟨hm, kd, [], [], (drawOk_qr (qr := fi.qr)).trans hck, h⟩, fun e => by cases e⟩
/-- The same, where some calls' results are told ahead. -/
theorem wRun_drawQ {P : Program} {fi : FI} {k : St → Prop} {st : St} {ops : Array Oper} (qr : List (Nat × AC)) (qs : List Nat) (hm : P.follows .mixedOrders = true) (hck : drawOk { fi with es := false, bw := [], qs := qs } true ops.toList = true)
    (h : wOpsD P { fi with es := false, bw := [], qs := qs, qr := qr } true ops.toList ops.toList (drawE k) st) : wRun P fi ops true k st :=
  ⟨fun _ => ⟨hm, true, qs, qr, hck, h⟩, fun e => by cases e⟩
theorem quietK_of {P : Program} {gd : Option Bool} {f : FuncId} {args : List AC} {r : AC} {k : Prop} (h : ∀ K, Ct P f args K r K) (hk : k) : quietK P gd f args r ∧ k := ⟨fun _ => h, hk⟩
/-- The contract of a function that writes what its first argument alone holds, by its body. -/
theorem ct_fnB {P : Program} {f : FuncId} {fn : Func} {c : Code} {a0 : AC} {args : List AC} {K K' : List (List (List AC))} {r back : AC} (fi : FI) (hf : P.funcs[f]? = some fn) (hb : fn.body = some c)
    (hname : (fn.name == "runtime.NumGoroutine") = false) (hd : dstOk fn.ntmps c = true) (hl : (Nat.ble (args.length + 1) fi.n0 && Nat.ble (args.length + 1) fn.ntmps) = true)
    (h : ∀ y, wC P fi c (retQB P fn.results.toList y r K' back) { env := (0, .nam y (mapV (liftP 1) a0)) :: argEnv 1 args, loc := [], K := [] :: K }) (ht : fi.th = [] := by rfl) : CtB P f (a0 :: args) K r K' back := by
  simp only [Bool.and_eq_true] at hl
  exact ct_bodyB fi hf hb hname hd ⟨Nat.le_of_ble_eq_true hl.1, Nat.le_of_ble_eq_true hl.2⟩ h ht
theorem retQB_ret {P : Program} {rs : List ResultVar} {y : Value} {r back : AC} {K' : List (List (List AC))} {st : St} : retQB P rs y r K' back .ret st = retB P rs y r K' back st := rfl
theorem retQB_normal {P : Program} {rs : List ResultVar} {y : Value} {r back : AC} {K' : List (List (List AC))} {st : St} : retQB P rs y r K' back .normal st = retB P rs y r K' back st := rfl
theorem retQB_exit {P : Program} {rs : List ResultVar} {y : Value} {r back : AC} {K' : List (List (List AC))} {st : St} {i : Nat} : retQB P rs y r K' back (.exit i) st = False := rfl
abbrev putKD (P : Program) (fi : FI) (kd : Bool) (op : Go.Op) (dst : Option Nat) (k : St → Prop) (K0 : List (List (List AC))) (v : AC) (s : St) : Prop := ((kd = true → isCall op = true → s.K = K0) ∧ tlOk P fi dst op v) ∧ k (s.put fi dst v)
abbrev optKD (P : Program) (fi : FI) (kd : Bool) (op : Go.Op) (dst : Option Nat) (b : Bool) (k : St → Prop) (K0 : List (List (List AC))) (v : AC) (s : St) : Prop := ((kd = true → isCall op = true → s.K = K0) ∧ tlOk P fi dst op v) ∧ k (s.put fi dst (.opt b v))
/-- Where a call that writes what its first argument alone holds waits for its contract. -/
def endB (P : Program) (f : FuncId) (vs : List AC) (K : List (List (List AC))) (ok : AC → Bool) (put : AC → St) (k : AC → St → Prop) : Prop := ∃ r K' back, CtB P f vs K r K' back ∧ ok back = true ∧ k r { put back with K := K' }
theorem endB_of {P : Program} {f : FuncId} {vs : List AC} {K K' : List (List (List AC))} {ok : AC → Bool} {put : AC → St} {k : AC → St → Prop} {r back : AC} (h : CtB P f vs K r K' back) (ho : ok back = true) (hk : k r { put back with K := K' }) : endB P f vs K ok put k := ⟨r, K', back, h, ho, hk⟩
theorem wOpsD_nil {P : Program} {fi : FI} {kd : Bool} {ops : List Oper} {k : St → Prop} {st : St} : wOpsD P fi kd ops [] k st = k st := rfl
theorem wOpsD_cons {P : Program} {fi : FI} {kd : Bool} {ops rest : List Oper} {o : Oper} {k : St → Prop} {st : St} : wOpsD P fi kd ops (o :: rest) k st = wOpD P fi kd ops o (wOpsD P fi kd ops rest k) st := rfl
theorem wOpD_none {P : Program} {fi : FI} {kd : Bool} {ops : List Oper} {k : St → Prop} {st : St} {dst : Option Nat} {op : Go.Op} {ty : TypeId} {pos : String} {after : Array Edge} :
    wOpD P fi kd ops { dst := dst, op := op, type := ty, pos := pos, after := after, guard := none } k st = wDoD P fi true none dst op st (putKD P fi kd op dst k st.K) := rfl
theorem wOpD_some {P : Program} {fi : FI} {kd : Bool} {ops : List Oper} {k : St → Prop} {st : St} {dst : Option Nat} {op : Go.Op} {ty : TypeId} {pos : String} {after : Array Edge} {g : Nat} {want : Bool} :
    wOpD P fi kd ops { dst := dst, op := op, type := ty, pos := pos, after := after, guard := some (g, want) } k st = match gVal st ops g want with
      | some b => wDoD P fi false (some b) dst op st (optKD P fi kd op dst b k st.K)
      | none => False := rfl
theorem wDoD_eq {P : Program} {fi : FI} {m : Bool} {gd : Option Bool} {dst : Option Nat} {op : Go.Op} {st : St} {k : AC → St → Prop} : wDoD P fi m gd dst op st k = match isLen op with
    | some (x, t) => un gd (st.ev x) fun v => wLenD (tdOf P t) v fun v => k v st
    | none => match isQ fi dst op with
      | some (f, args, r) => wQ P gd f args r st k
      | none => wDo P fi m gd dst op st k := rfl
section
variable {P : Program} {fi : FI} {m : Bool} {gd : Option Bool} {st : St}
theorem wTs_nil {k : List AC → St → Prop} : wTs fi m gd [] st k = k [] st := rfl
theorem wTs_cons {x : Operand} {xs : List Operand} {k : List AC → St → Prop} : wTs fi m gd (x :: xs) st k = wT fi m gd st x fun v st => wTs fi m gd xs st fun vs st => k (v :: vs) st := rfl
theorem wTs_arr {l : List Operand} {k : List AC → St → Prop} : wTs fi m gd l.toArray.toList st k = wTs fi m gd l st k := rfl
theorem wTs_map {l : List (Nat × Operand)} {k : List AC → St → Prop} : wTs fi m gd (l.toArray.toList.map (·.2)) st k = wTs fi m gd (l.map (·.2)) st k := rfl
theorem wTs_mapcons {x : Nat × Operand} {l : List (Nat × Operand)} {k : List AC → St → Prop} : wTs fi m gd ((x :: l).map (·.2)) st k = wTs fi m gd (x.2 :: l.map (·.2)) st k := rfl
theorem wTs_mapnil {k : List AC → St → Prop} : wTs fi m gd (([] : List (Nat × Operand)).map (·.2)) st k = k [] st := rfl
theorem wXs_nil {k : List AC → Prop} : wXs gd st [] k = k [] := rfl
theorem wXs_cons {x : Operand} {xs : List Operand} {k : List AC → Prop} : wXs gd st (x :: xs) k = un gd (st.ev x) fun v => wXs gd st xs fun vs => k (share v :: vs) := rfl
theorem optInt_none {d : Int} {k : Int → Prop} : optInt gd st d none k = k d := rfl
theorem optInt_some {d : Int} {x : Operand} {k : Int → Prop} : optInt gd st d (some x) k = un gd (st.ev x) fun v => match v with
    | .int _ n => k n
    | _ => False := rfl
theorem nameE_nil {k : List (Nat × AC) → Prop} : nameE [] k = k [] := rfl
theorem nameE_cons {j : Nat} {v : AC} {r : List (Nat × AC)} {k : List (Nat × AC) → Prop} : nameE ((j, v) :: r) k = if isX v then ∀ y : Value, nameE r fun r' => k ((j, .nam y v) :: r') else nameE r fun r' => k ((j, v) :: r') := rfl
theorem nameE_st {e l : List (Nat × AC)} {K : List (List (List AC))} {k : List (Nat × AC) → Prop} : nameE (St.mk e l K).env k = nameE e k := rfl
theorem nameX_st {e l : List (Nat × AC)} {K : List (List (List AC))} {K2 : List (List (List AC))} {k : List (Nat × AC) → Prop} : nameX K2 (St.mk e l K).env k = nameX K2 e k := rfl
theorem backE_st {e l env0 env1 : List (Nat × AC)} {K : List (List (List AC))} {k : List (Nat × AC) → Prop} : backE env0 env1 (St.mk e l K).env k = backE env0 env1 e k := rfl
theorem nameX_nil {K2 : List (List (List AC))} {k : List (Nat × AC) → Prop} : nameX K2 [] k = k [] := rfl
theorem nameX_cons {j : Nat} {v : AC} {r : List (Nat × AC)} {K2 : List (List (List AC))} {k : List (Nat × AC) → Prop} : nameX K2 ((j, v) :: r) k = if scalar v then nameX K2 r fun r' => k ((j, v) :: r') else ∀ y : Value, nameX K2 r fun r' => k ((j, .nam y (lendV K2 v)) :: r') := rfl
theorem backE_nil {env0 env1 : List (Nat × AC)} {k : List (Nat × AC) → Prop} : backE env0 env1 [] k = k [] := rfl
theorem backE_nam {env0 env1 r : List (Nat × AC)} {j : Nat} {y : Value} {v : AC} {k : List (Nat × AC) → Prop} : backE env0 env1 ((j, .nam y v) :: r) k = match look j env1, look j env0 with
      | some (.nam y' _), some u => y' = y ∧ backE env0 env1 r fun r' => k ((j, u) :: r')
      | _, _ => False := rfl
theorem backE_cons {env0 env1 r : List (Nat × AC)} {j : Nat} {v : AC} {k : List (Nat × AC) → Prop} (h : ∀ y u, v ≠ .nam y u) : backE env0 env1 ((j, v) :: r) k = (closed v = true ∧ backE env0 env1 r fun r' => k ((j, toEx v) :: r')) := by
  cases v <;> first | rfl | exact absurd rfl (h _ _)
theorem callB_cons {f : FuncId} {x : Operand} {xs : List Operand} {k : AC → St → Prop} : callB P gd f (x :: xs) k st = wBorrow st x fun v ok put => wXs gd st xs fun vs => endB P f (v :: vs) st.K ok put k := rfl
theorem callB_arr {f : FuncId} {l : List Operand} {k : AC → St → Prop} : callB P gd f l.toArray.toList k st = callB P gd f l k st := rfl
end
attribute [simp ↓] nameE_st nameX_st backE_st wTs_nil wTs_cons wTs_arr wTs_map wTs_mapcons wTs_mapnil wXs_nil wXs_cons optInt_none optInt_some nameE_nil nameE_cons nameX_nil nameX_cons backE_nil backE_nam backE_cons callB_cons callB_arr
attribute [simp] qOk isQ noTk wQ tlOk ldTy isAggV isTL noUndef drawE lentE keepS wConv bytesOf retQB_ret retQB_normal retQB_exit retB putKD optKD wOpsD_nil wOpsD_cons wOpD_none wOpD_some wDoD_eq isLen isCall wLenD wC_cond2 wOp_some2 pickV gVal AC.le_bool AC.le_int AC.le_str AC.le_self AC.le_undef AC.le_share AC.le_nil AC.leL.eq_1 AC.leL.eq_2 retQ_ret retQ_normal retQ_exit retOk resVs resStep lows low1 List.mapM_cons List.mapM_nil
end Go.Proofs.YtkpdlbidadcdjaaDoor.Abs
