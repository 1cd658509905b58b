/- Words for the symbolic evaluation. No condition. -/
import Derived.Test.YtdfmnobckmakiaaAbsS
set_option linter.unusedVariables false
set_option linter.unusedSimpArgs false
namespace Go.Proofs.Ytdfmnobckmakiaa.Abs
open Go

/-- A function's contract by its body. -/
theorem ct_fn {P : Program} {f : FuncId} {fn : Func} {c : Code} {args : List AC} {K K' : List (List (List AC))} {r : AC} (fi : FI) (hf : P.funcs[f]? = some fn) (hb : fn.body = some c)
    (hname : (fn.name == "runtime.NumGoroutine") = false) (hd : dstOk fn.ntmps c = true) (hl : (Nat.ble args.length fi.n0 && Nat.ble args.length fn.ntmps) = true)
    (h : wC P fi c (retQ P fn.results.toList r K') { env := argEnv 0 args, loc := [], K := [] :: K }) : Ct P f args K r K' := by
  simp only [Bool.and_eq_true] at hl
  exact ct_body fi hf hb hname hd ⟨Nat.le_of_ble_eq_true hl.1, Nat.le_of_ble_eq_true hl.2⟩ h

theorem AC.le_bool {a b : Bool} : AC.le (.bool a) (.bool b) ↔ b = a := by simp [AC.le, share]
theorem AC.le_int {k : IntKind} {a b : Int} : AC.le (.int k a) (.int k b) ↔ b = a := by simp [AC.le, share]
theorem AC.le_str {a b : List UInt8} : AC.le (.str a) (.str b) ↔ b = a := by simp [AC.le, share]
theorem AC.le_self {a : AC} : AC.le a a := .inl rfl
theorem AC.le_undef {a : AC} : AC.le a .undef := .inr (.inl rfl)
theorem AC.le_share {a : AC} : AC.le a (share a) := .inr (.inr (.inl rfl))

theorem retQ_ret {P : Program} {rs : List ResultVar} {r : AC} {K' : List (List (List AC))} {st : St} : retQ P rs r K' .ret st = retOk P rs st r K' := rfl
theorem retQ_normal {P : Program} {rs : List ResultVar} {r : AC} {K' : List (List (List AC))} {st : St} : retQ P rs r K' .normal st = retOk P rs st r K' := rfl
theorem retQ_exit {P : Program} {rs : List ResultVar} {r : AC} {K' : List (List (List AC))} {st : St} {i : Nat} : retQ P rs r K' (.exit i) st = False := rfl

/-- A loop. -/
theorem wC_loop {P : Program} {fi : FI} {c : Code} {Q : Exit → St → Prop} {st : St} (I : Nat → St → Prop) (n : Nat) (s0 : St) (h1 : st.le s0) (h2 : I n s0)
    (h3 : ∀ n s, I n s → wC P fi c (seqK (roundK I n (s.K.headD []).length) Q) s) : wC P fi (.loop c) Q st := ⟨I, n, s0, h1, h2, h3⟩

theorem St.le_of {s t : St} (h1 : (t.env.map (·.1)).Nodup) (h2 : ∀ x ∈ t.env, ∃ u, look x.1 s.env = some u ∧ AC.le u x.2) (h3 : t.loc = []) (h4 : s.K = t.K) : s.le t := by
  refine ⟨h1, fun k v hk => ?_, h3, h4⟩
  have : ∀ l : List (Nat × AC), look k l = some v → (k, v) ∈ l := by
    intro l
    induction l with
    | nil => intro h; simp [look] at h
    | cons x l ih =>
      intro h
      obtain ⟨a, b⟩ := x
      simp only [look] at h
      split at h
      · rename_i e; cases h; subst e; exact List.mem_cons_self
      · exact List.mem_cons_of_mem _ (ih h)
  exact h2 _ (this _ hk)

theorem wC_cond2 {P : Program} {fi : FI} {Q : Exit → St → Prop} {st : St} {c : Operand} {a b : Code} : wC P fi (.cond c a b) Q st = match st.ev c with
    | .bool v => (v = true → wC P fi a Q st) ∧ (v = false → wC P fi b Q st)
    | _ => False := rfl
theorem wOp_some2 {P : Program} {fi : FI} {st : St} {m : Bool} {ops : List Oper} {k : St → Prop} {dst : Option Nat} {op : Go.Op} {ty : TypeId} {pos : String} {after : Array Edge} {g : Nat} {want : Bool} :
    wOp P fi m ops { dst := dst, op := op, type := ty, pos := pos, after := after, guard := some (g, want) } k st = match gVal st ops g want with
    | some b => wDo P fi false (some b) dst op st (optK fi dst b k)
    | none => False := rfl
/-- A region that draws its order. -/
theorem wC_draw {P : Program} {fi : FI} {Q : Exit → St → Prop} {st : St} {id : Nat} {ops : Array Oper} (kd : Bool) (hm : P.follows .mixedOrders = true) (hck : drawOk fi kd ops.toList = true)
    (h : wOpsD P fi kd ops.toList ops.toList (fun s => (s.env.map (·.1)).Nodup ∧ (s.loc.map (·.1)).Nodup ∧ Q .normal s) { st with loc := [] }) : wC P fi (.region id ops true) Q st :=
  ⟨fun _ => ⟨hm, kd, hck, h⟩, fun e => by cases e⟩
abbrev putKD (fi : FI) (kd : Bool) (op : Go.Op) (dst : Option Nat) (k : St → Prop) (K0 : List (List (List AC))) (v : AC) (s : St) : Prop := (kd = true → isCall op = true → s.K = K0) ∧ k (s.put fi dst v)
abbrev optKD (fi : FI) (kd : Bool) (op : Go.Op) (dst : Option Nat) (b : Bool) (k : St → Prop) (K0 : List (List (List AC))) (v : AC) (s : St) : Prop := (kd = true → isCall op = true → s.K = K0) ∧ k (s.put fi dst (.opt b v))
theorem wOpsD_nil {P : Program} {fi : FI} {kd : Bool} {ops : List Oper} {k : St → Prop} {st : St} : wOpsD P fi kd ops [] k st = k st := rfl
theorem wOpsD_cons {P : Program} {fi : FI} {kd : Bool} {ops rest : List Oper} {o : Oper} {k : St → Prop} {st : St} : wOpsD P fi kd ops (o :: rest) k st = wOpD P fi kd ops o (wOpsD P fi kd ops rest k) st := rfl
theorem wOpD_none {P : Program} {fi : FI} {kd : Bool} {ops : List Oper} {k : St → Prop} {st : St} {dst : Option Nat} {op : Go.Op} {ty : TypeId} {pos : String} {after : Array Edge} :
    wOpD P fi kd ops { dst := dst, op := op, type := ty, pos := pos, after := after, guard := none } k st = wDoD P fi true none dst op st (putKD fi kd op dst k st.K) := rfl
theorem wOpD_some {P : Program} {fi : FI} {kd : Bool} {ops : List Oper} {k : St → Prop} {st : St} {dst : Option Nat} {op : Go.Op} {ty : TypeId} {pos : String} {after : Array Edge} {g : Nat} {want : Bool} :
    wOpD P fi kd ops { dst := dst, op := op, type := ty, pos := pos, after := after, guard := some (g, want) } k st = match gVal st ops g want with
      | some b => wDoD P fi false (some b) dst op st (optKD fi kd op dst b k st.K)
      | none => False := rfl
theorem wDoD_eq {P : Program} {fi : FI} {m : Bool} {gd : Option Bool} {dst : Option Nat} {op : Go.Op} {st : St} {k : AC → St → Prop} : wDoD P fi m gd dst op st k = match isLen op with
    | some (x, t) => un gd (st.ev x) fun v => wLenD (tdOf P t) v fun v => k v st
    | none => wDo P fi m gd dst op st k := rfl
attribute [simp] putKD optKD wOpsD_nil wOpsD_cons wOpD_none wOpD_some wDoD_eq isLen isCall wLenD wC_cond2 wOp_some2 pickV optInt.eq_1 optInt.eq_2 gVal AC.le_bool AC.le_int AC.le_str AC.le_self AC.le_undef AC.le_share retQ_ret retQ_normal retQ_exit retOk resVs resStep lows low1 List.mapM_cons List.mapM_nil
end Go.Proofs.Ytdfmnobckmakiaa.Abs
