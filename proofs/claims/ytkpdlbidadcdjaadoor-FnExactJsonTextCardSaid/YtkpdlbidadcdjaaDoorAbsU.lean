/- Operations that only read: what they yield rests on their operands alone. No condition. -/
import Derived.Test.YtkpdlbidadcdjaaDoorAbsP
set_option linter.unusedVariables false
set_option linter.unusedSimpArgs false
namespace Go.Proofs.YtkpdlbidadcdjaaDoor.Abs
open Go

/-- No operation looks into slots or writes what they alone hold. -/
class Quiet (fi : FI) : Prop where
  es : fi.es = false
  bw : fi.bw = []
instance {n0 : Nat} {ex tk kp xr th : List Nat} {qs : List Nat} {qr : List (Nat × AC)} : Quiet (FI.mk n0 ex tk kp false xr [] qs qr th) := ⟨rfl, rfl⟩

/-- For all states in A the operation yields the same. -/
def Fixes (A : St → Prop) (W : St → (AC → St → Prop) → Prop) : Prop := ∃ (Pre : Prop) (av : AC), ∀ st, A st → ∀ k, W st k ↔ (Pre ∧ k av st)

section
variable {A : St → Prop} {P : Program} {fi : FI} {m : Bool} {gd : Option Bool} {dst : Option Nat}
theorem fixes_false : Fixes A (fun _ _ => False) := ⟨False, .undef, fun st _ k => by simp⟩
theorem fixes_ret (v : AC) : Fixes A (fun st k => k v st) := ⟨True, v, fun st _ k => by simp⟩
theorem fixes_and {c : Prop} {W : St → (AC → St → Prop) → Prop} (h : Fixes A W) : Fixes A (fun st k => c ∧ W st k) := by
  obtain ⟨p, v, h⟩ := h
  exact ⟨c ∧ p, v, fun st hs k => by show c ∧ W st k ↔ _; rw [h st hs k, and_assoc]⟩
theorem Fixes.congr {W W' : St → (AC → St → Prop) → Prop} (h : Fixes A W') (e : ∀ st, A st → ∀ k, W st k ↔ W' st k) : Fixes A W := by
  obtain ⟨p, v, h⟩ := h
  exact ⟨p, v, fun st hs k => (e st hs k).trans (h st hs k)⟩
theorem fixes_un {v : AC} {G : AC → St → (AC → St → Prop) → Prop} (h : ∀ u, Fixes A (G u)) : Fixes A (fun st k => un gd v (fun u => G u st k)) := by
  cases v with
  | opt g v => exact fixes_and (h v)
  | nam y v => exact h v
  | _ => exact h _
/-- An operand that is the same in all states. -/
theorem fixes_ev {x : Operand} {v : AC} (hx : ∀ st, A st → st.ev x = v) {G : AC → St → (AC → St → Prop) → Prop} (h : ∀ u, Fixes A (G u)) : Fixes A (fun st k => un gd (st.ev x) (fun u => G u st k)) :=
  (fixes_un (gd := gd) (v := v) h).congr fun st hs k => by rw [hx st hs]
theorem fixes_optInt {d : Int} {x : Option Operand} (hx : ∀ y, x = some y → ∃ v, ∀ st, A st → st.ev y = v) {G : Int → St → (AC → St → Prop) → Prop} (h : ∀ u, Fixes A (G u)) :
    Fixes A (fun st k => optInt gd st d x (fun u => G u st k)) := by
  cases x with
  | none => exact h d
  | some y =>
    obtain ⟨v, hv⟩ := hx y rfl
    refine fixes_ev (G := fun v st k => match v with | .int _ n => G n st k | _ => False) hv fun u => ?_
    cases u with
    | int j n => exact h n
    | _ => exact fixes_false
theorem fixes_wTs : ∀ {l : List Operand} {G : List AC → St → (AC → St → Prop) → Prop}, (∀ x ∈ l, ∃ v, ∀ st, A st → st.ev x = v) → (∀ t, Operand.tmp t ∈ l → fi.tk.elem t = false) → (∀ us, Fixes A (G us)) →
    Fixes A (fun st k => wTs fi m gd l st (fun us st => G us st k)) := by
  intro l
  induction l with
  | nil => intro G _ _ h; exact h []
  | cons x l ih =>
    intro G hx ht h
    obtain ⟨v, hv⟩ := hx x List.mem_cons_self
    have hl := ih (G := fun us st k => G us st k) (fun y hy => hx y (List.mem_cons_of_mem _ hy)) (fun t hy => ht t (List.mem_cons_of_mem _ hy))
    have key : ∀ u, Fixes A (fun st k => wTs fi m gd l st (fun us st => G (u :: us) st k)) := fun u =>
      ih (G := fun us => G (u :: us)) (fun y hy => hx y (List.mem_cons_of_mem _ hy)) (fun t hy => ht t (List.mem_cons_of_mem _ hy)) fun us => h _
    cases x with
    | tmp t =>
      have e := ht t List.mem_cons_self
      refine (fixes_ev (x := .tmp t) (gd := gd) (G := fun u st k => wTs fi m gd l st (fun us st => G (share u :: us) st k)) hv fun u => key _).congr fun st hs k => ?_
      show (un gd (st.get t) fun v => if m && fi.tk.elem t then _ else _) ↔ _
      simp only [e, Bool.and_false, Bool.false_eq_true, if_false]
      exact Iff.rfl
    | const c => exact (key (ofV c)).congr fun st hs k => Iff.rfl
    | func f => exact (key (.fn f [])).congr fun st hs k => Iff.rfl
    | global g => exact (key .undef).congr fun st hs k => Iff.rfl

theorem un_iff {v : AC} {k k' : AC → Prop} (h : ∀ u, k u ↔ k' u) : un gd v k ↔ un gd v k' := by
  cases v with
  | opt g v => exact and_congr_right fun _ => h v
  | nam y v => exact h v
  | _ => exact h _

theorem fixes_cps {W : (AC → Prop) → Prop} (h : ∃ (p : Prop) (v : AC), ∀ k, W k ↔ (p ∧ k v)) : Fixes A (fun st k => W fun v => k v st) := by
  obtain ⟨p, v, h⟩ := h
  exact ⟨p, v, fun st _ k => h _⟩

theorem wBin_cps {op : BinOp} {t : TypeId} {x y : AC} : ∃ (p : Prop) (v : AC), ∀ k, wBin P gd op t x y k ↔ (p ∧ k v) := by
  have hF : ∃ (p : Prop) (v : AC), ∀ k : AC → Prop, False ↔ (p ∧ k v) := ⟨False, .undef, by simp⟩
  have hT : ∀ u : AC, ∃ (p : Prop) (v : AC), ∀ k : AC → Prop, k u ↔ (p ∧ k v) := fun u => ⟨True, u, by simp⟩
  unfold wBin
  split
  · unfold intBin
    cases op <;> first
      | exact ⟨_, _, fun k => Iff.rfl⟩
      | exact ⟨_, _, fun k => and_assoc.symm⟩
  · unfold strBin
    cases op <;> first
      | exact hF
      | exact ⟨_, _, fun k => Iff.rfl⟩
      | exact hT _
  · split
    · exact hT _
    · exact hT _
    · exact hF
  · exact ⟨_, _, fun k => Iff.rfl⟩
  · exact ⟨_, _, fun k => Iff.rfl⟩
  · exact hF

theorem wConv_cps {src tgt : TypeId} {x : AC} : ∃ (p : Prop) (v : AC), ∀ k, wConv P src tgt x k ↔ (p ∧ k v) := by
  have hF : ∃ (p : Prop) (v : AC), ∀ k : AC → Prop, False ↔ (p ∧ k v) := ⟨False, .undef, by simp⟩
  have hT : ∀ u : AC, ∃ (p : Prop) (v : AC), ∀ k : AC → Prop, k u ↔ (p ∧ k v) := fun u => ⟨True, u, by simp⟩
  unfold wConv
  split
  · exact hT _
  · exact hT _
  · split
    · exact ⟨_, _, fun k => and_assoc.symm⟩
    · exact hF
  · exact hF

/-- What an operation that only reads rests on. -/
def Agree (op : Go.Op) (s0 st : St) : Prop := (∀ x ∈ op.operands, st.ev x = s0.ev x) ∧ (loads op = true → st.K = s0.K)

theorem noTk_of {l : List Operand} (h : l.all (noTk fi) = true) : ∀ t, Operand.tmp t ∈ l → fi.tk.elem t = false := by
  intro t ht
  have := List.all_eq_true.1 h _ ht
  simpa [noTk] using this

theorem floats_fix [hq : Quiet fi] {s0 : St} {op : Go.Op} (hf : floats fi dst op = true) : Fixes (Agree op s0) (fun st k => wDo P fi m gd dst op st k) := by
  have ev : ∀ x ∈ op.operands, ∀ st, Agree op s0 st → st.ev x = s0.ev x := fun x hx st h => h.1 x hx
  unfold floats at hf
  split at hf
  case h_1 x =>
    have hx := ev x (by simp [Op.operands])
    cases x with
    | tmp t =>
      have e : fi.takes dst = false := by simpa using hf
      refine Fixes.congr (W' := fun st k => match s0.get t with
        | .nam y v => if isX v then k (.als t none y (lenOf v)) st else k (share v) st
        | v => un gd v fun v => k (share v) st) ?_ fun st hs k => ?_
      · split
        · split
          · exact fixes_ret _
          · exact fixes_ret _
        · exact fixes_un fun u => fixes_ret _
      · have hg : st.get t = s0.get t := hx st hs
        show wD_move P fi m gd dst (.tmp t) st k ↔ _
        simp only [wD_move, e, Bool.and_false, Bool.false_eq_true, if_false, hg]
        generalize s0.get t = z
        cases z <;> exact Iff.rfl
    | const c => exact fixes_ret _
    | func f => exact fixes_ret _
    | global g => exact fixes_ret _
  case h_2 x =>
    have hx := ev x (by simp [Op.operands])
    have := fixes_wTs (A := Agree (.assign x) s0) (fi := fi) (m := m) (gd := gd) (l := [x]) (G := fun us st k => k (us.headD .undef) st) (fun y hy => by
      obtain rfl : y = x := by simpa using hy
      exact ⟨_, hx⟩) (noTk_of (by simpa using hf)) fun us => fixes_ret _
    exact this
  case h_3 c a b =>
    refine fixes_ev (x := c) (G := fun c st k => match c with
      | .bool c => un (some ((gd.getD true) && c)) (st.ev a) fun a => un (some ((gd.getD true) && !c)) (st.ev b) fun b => k (share (pickV c a b)) st
      | .undef => ¬ gOk gd ∧ k .undef st
      | _ => False) (ev c (by simp [Op.operands])) fun u => ?_
    cases u with
    | bool u =>
      refine fixes_ev (x := a) (G := fun a st k => un (some ((gd.getD true) && !u)) (st.ev b) fun b => k (share (pickV u a b)) st) (ev a (by simp [Op.operands])) fun u1 => ?_
      exact fixes_ev (x := b) (G := fun b st k => k (share (pickV u u1 b)) st) (ev b (by simp [Op.operands])) fun u2 => fixes_ret _
    | undef => exact fixes_and (fixes_ret _)
    | _ => exact fixes_false
  case h_4 t ps =>
    refine fixes_wTs (fun x hx => ⟨_, ev x (by simpa [Op.operands] using hx)⟩) (noTk_of hf) fun us => ?_
    split
    · refine fixes_and (fixes_and ?_)
      split
      · exact fixes_ret _
      · exact fixes_false
    · exact fixes_false
  case h_5 t n ps =>
    refine fixes_wTs (fun x hx => ⟨_, ev x (by simpa [Op.operands] using hx)⟩) (noTk_of hf) fun us => ?_
    split
    · refine fixes_and (fixes_and ?_)
      split
      · refine fixes_and (fixes_and ?_)
        split
        · exact fixes_and (fixes_ret _)
        · exact fixes_false
      · exact fixes_false
    · exact fixes_false
  case h_6 t x =>
    have e : fi.takes dst = false := by simpa using hf
    refine Fixes.congr (W' := fun st k => 0 < P.cellsOf t ∧ goodTy P t ∧ un gd (st.ev x) fun p => match p with
      | .ptr u i off => match getBox s0.K u i with
        | some cells => off + P.cellsOf t ≤ cells.length ∧ k (share (mkVal P t (((cells.drop off).take (P.cellsOf t)).map (mapC (liftP u))))) st
        | none => False
      | .ref cells => (gOk gd → P.cellsOf t ≤ cells.length) ∧ k (mkVal P t (cells.take (P.cellsOf t))) st
      | _ => False) ?_ fun st hs k => ?_
    · refine fixes_and (fixes_and (fixes_ev (x := x) (G := fun p st k => match p with
      | .ptr u i off => match getBox s0.K u i with
        | some cells => off + P.cellsOf t ≤ cells.length ∧ k (share (mkVal P t (((cells.drop off).take (P.cellsOf t)).map (mapC (liftP u))))) st
        | none => False
      | .ref cells => (gOk gd → P.cellsOf t ≤ cells.length) ∧ k (mkVal P t (cells.take (P.cellsOf t))) st
      | _ => False) (ev x (by simp [Op.operands])) fun u => ?_))
      split
      · split
        · exact fixes_and (fixes_ret _)
        · exact fixes_false
      · exact fixes_and (fixes_ret _)
      · exact fixes_false
    · have hK : st.K = s0.K := hs.2 rfl
      show wD_load P fi m gd dst t x st k ↔ _
      simp only [wD_load, e, hK, hq.es, Bool.and_false, Bool.false_eq_true, if_false, false_and]
      refine and_congr_right fun _ => and_congr_right fun _ => ?_
      refine un_iff fun u => ?_
      cases u <;> exact Iff.rfl
  case h_7 x =>
    refine fixes_ev (x := x) (G := fun v st k => match v with
      | .ptr u i off => k (.ptr u i off) st
      | .ref cells => k (.ref cells) st
      | .ept s y off => k (.ept s y off) st
      | _ => False) (ev x (by simp [Op.operands])) fun u => ?_
    split
    · exact fixes_ret _
    · exact fixes_ret _
    · exact fixes_ret _
    · exact fixes_false
  case h_8 o t x y t' =>
    have hny : isNilC y = false := by simpa using hf
    refine Fixes.congr (W' := fun st k => un gd (st.ev x) fun a => un gd (st.ev y) fun b => wBin P gd o t a b fun v => k v st) ?_ fun st hs k => by
      show wD_binOp P fi m gd dst o t x y t' st k ↔ _
      unfold wD_binOp; rw [if_neg (by rw [hny]; simp)]
    refine fixes_ev (x := x) (G := fun a st k => un gd (st.ev y) fun b => wBin P gd o t a b fun v => k v st) (ev x (by simp [Op.operands])) fun u => ?_
    exact fixes_ev (x := y) (G := fun b st k => wBin P gd o t u b fun v => k v st) (ev y (by simp [Op.operands])) fun u2 => fixes_cps wBin_cps
  case h_9 o t x =>
    have hx := ev x (by simp [Op.operands])
    clear ev hf
    refine fixes_ev (x := x) (G := fun v st k => match (generalizing := false) o, v with
      | .not, .bool b => k (.bool !b) st
      | .neg, .int j n => k (.int j (j.wrap (0 - n))) st
      | _, _ => False) hx fun u => ?_
    split
    · exact fixes_ret _
    · exact fixes_ret _
    · exact fixes_false
  case h_10 a b x =>
    exact fixes_ev (x := x) (G := fun v st k => wConv P a b v fun v => k v st) (ev x (by simp [Op.operands])) fun u => fixes_cps wConv_cps
  case h_11 f first captured =>
    refine fixes_and ?_
    refine Fixes.congr (W' := fun st k => (captured.toList.map s0.ev).all isPtr = true ∧ k (.fn f (captured.toList.map s0.ev)) st) (fixes_and (fixes_ret _)) fun st hs k => ?_
    have : captured.toList.map st.ev = captured.toList.map s0.ev := List.map_congr_left fun x hx => hs.1 x (by simp [Op.operands]; exact .inr (by simpa using hx))
    rw [this]
  case h_12 t a b =>
    refine fixes_ev (x := a) (G := fun n st k => un gd (st.ev b) fun c => match n, c, tdOf P t with
      | .int _ n, .int _ c, .slice e => (gOk gd → 0 ≤ n ∧ n = c ∧ n ≤ maxLen ∧ P.bytesOf e * n ≤ 281474976710656) ∧ 0 < P.cellsOf e ∧ match zeroOf P e with
        | some zs => (zs.all storable) = true ∧ (zs.all flat) = true ∧ zs.length = P.cellsOf e ∧ k (.sl (if fi.keeps dst then .ex e else .of e) n.toNat (List.replicate n.toNat zs).flatten) st
        | none => False
      | _, _, _ => False) (ev a (by simp [Op.operands])) fun u => ?_
    refine fixes_ev (x := b) (G := fun c st k => match u, c, tdOf P t with
      | .int _ n, .int _ c, .slice e => (gOk gd → 0 ≤ n ∧ n = c ∧ n ≤ maxLen ∧ P.bytesOf e * n ≤ 281474976710656) ∧ 0 < P.cellsOf e ∧ match zeroOf P e with
        | some zs => (zs.all storable) = true ∧ (zs.all flat) = true ∧ zs.length = P.cellsOf e ∧ k (.sl (if fi.keeps dst then .ex e else .of e) n.toNat (List.replicate n.toNat zs).flatten) st
        | none => False
      | _, _, _ => False) (ev b (by simp [Op.operands])) fun u2 => ?_
    split
    · refine fixes_and (fixes_and ?_)
      split
      · exact fixes_and (fixes_and (fixes_and (fixes_ret _)))
      · exact fixes_false
    · exact fixes_false
  case h_13 t x lo hi mx =>
    refine fixes_and ?_
    refine fixes_ev (x := x) (G := fun v st k => match tdOf P t, v with
      | .str, .str s => optInt gd st 0 lo fun l => optInt gd st s.length hi fun h => (gOk gd → 0 ≤ l ∧ l ≤ h ∧ h ≤ s.length) ∧ k (.str ((s.take h.toNat).drop l.toNat)) st
      | .slice e, .sl o n cells => optInt gd st 0 lo fun l => optInt gd st n hi fun h => o.isEx = false ∧ (gOk gd → 0 < P.cellsOf e ∧ 0 ≤ l ∧ l ≤ h ∧ h ≤ n) ∧
          k (.sl .no (h.toNat - l.toNat) (shareO o ((cells.take (h.toNat * P.cellsOf e)).drop (l.toNat * P.cellsOf e)))) st
      | _, _ => False) (ev x (by simp [Op.operands])) fun u => ?_
    have hlo : ∀ y, lo = some y → ∃ v, ∀ st, Agree (.slice t x lo hi mx) s0 st → st.ev y = v := fun y hy => ⟨_, ev y (by subst hy; simp [Op.operands])⟩
    have hhi : ∀ y, hi = some y → ∃ v, ∀ st, Agree (.slice t x lo hi mx) s0 st → st.ev y = v := fun y hy => ⟨_, ev y (by subst hy; simp [Op.operands])⟩
    split
    · rename_i s _ _
      refine fixes_optInt (G := fun l st k => optInt gd st _ hi fun h => (gOk gd → 0 ≤ l ∧ l ≤ h ∧ h ≤ _) ∧ k (.str (List.drop l.toNat (List.take h.toNat _))) st) hlo fun l => ?_
      exact fixes_optInt (G := fun h st k => (gOk gd → 0 ≤ l ∧ l ≤ h ∧ h ≤ _) ∧ k (.str (List.drop l.toNat (List.take h.toNat _))) st) hhi fun h => fixes_and (fixes_ret _)
    · refine fixes_optInt (G := fun l st k => optInt gd st _ hi fun h => _ ∧ (gOk gd → 0 < P.cellsOf _ ∧ 0 ≤ l ∧ l ≤ h ∧ h ≤ _) ∧
          k (.sl .no (h.toNat - l.toNat) (shareO _ (List.drop (l.toNat * P.cellsOf _) (List.take (h.toNat * P.cellsOf _) _)))) st) hlo fun l => ?_
      exact fixes_optInt (G := fun h st k => _ ∧ (gOk gd → 0 < P.cellsOf _ ∧ 0 ≤ l ∧ l ≤ h ∧ h ≤ _) ∧
          k (.sl .no (h.toNat - l.toNat) (shareO _ (List.drop (l.toNat * P.cellsOf _) (List.take (h.toNat * P.cellsOf _) _)))) st) hhi fun h => fixes_and (fixes_and (fixes_ret _))
    · exact fixes_false
  case h_14 s x f =>
    have hx := ev x (by simp [Op.operands])
    show Fixes _ (fun st k => wD_fieldAddr P fi m gd dst s x f st k)
    unfold wD_fieldAddr
    split
    · split
      · rename_i off sz _ _
        refine fixes_and (fixes_ev (x := x) (G := fun p st k => match p with
          | .ptr u i o => k (.ptr u i (o + off)) st
          | .ref cells => (gOk gd → off + sz ≤ cells.length) ∧ k (.ref ((cells.drop off).take sz)) st
          | .ept s y o => k (.ept s y (o + off)) st
          | _ => False) hx fun u => ?_)
        split
        · exact fixes_ret _
        · exact fixes_and (fixes_ret _)
        · exact fixes_ret _
        · exact fixes_false
      · exact fixes_false
    · exact fixes_false
  case h_15 s x f =>
    have hx := ev x (by simp [Op.operands])
    show Fixes _ (fun st k => wD_field P fi m gd dst s x f st k)
    unfold wD_field
    split
    · split
      · rename_i off sz t _
        refine fixes_and (fixes_and (fixes_and ((fixes_ev (x := x) (gd := gd) (G := fun v st k => match v with
          | .agg cells => off + sz ≤ cells.length ∧ k (share (mkVal P t ((cells.drop off).take sz))) st
          | _ => False) hx fun u => ?_).congr fun st hs k => un_iff fun u => ?_)))
        · split
          · exact fixes_and (fixes_ret _)
          · exact fixes_false
        · cases u with
          | als s' o' y n => cases o' <;> simp [hq.es]
          | _ => exact Iff.rfl
      · exact fixes_false
    · exact fixes_false
  case h_16 t x ix =>
    refine fixes_ev (x := x) (G := fun v st k => un gd (st.ev ix) fun i => match tdOf P t, v, i with
      | .slice e, .sl o n cells, .int _ i => o.isEx = false ∧ (gOk gd → 0 ≤ i ∧ i < n) ∧ 0 < P.cellsOf e ∧ cells.length = n * P.cellsOf e ∧
          k (.ref (shareO o ((cells.drop (i.toNat * P.cellsOf e)).take (P.cellsOf e)))) st
      | .slice e, .als s none y (some n), .int _ i => (gOk gd → 0 ≤ i ∧ i < n) ∧ 0 < P.cellsOf e ∧ k (.ept s y (i.toNat * P.cellsOf e)) st
      | _, _, _ => False) (ev x (by simp [Op.operands])) fun u => ?_
    refine fixes_ev (x := ix) (G := fun i st k => match tdOf P t, u, i with
      | .slice e, .sl o n cells, .int _ i => o.isEx = false ∧ (gOk gd → 0 ≤ i ∧ i < n) ∧ 0 < P.cellsOf e ∧ cells.length = n * P.cellsOf e ∧
          k (.ref (shareO o ((cells.drop (i.toNat * P.cellsOf e)).take (P.cellsOf e)))) st
      | .slice e, .als s none y (some n), .int _ i => (gOk gd → 0 ≤ i ∧ i < n) ∧ 0 < P.cellsOf e ∧ k (.ept s y (i.toNat * P.cellsOf e)) st
      | _, _, _ => False) (ev ix (by simp [Op.operands])) fun u2 => ?_
    split
    · exact fixes_and (fixes_and (fixes_and (fixes_and (fixes_ret _))))
    · exact fixes_and (fixes_and (fixes_ret _))
    · exact fixes_false
  case h_17 t x ix =>
    refine fixes_ev (x := x) (G := fun v st k => un gd (st.ev ix) fun i => match tdOf P t, v, i with
      | .str, .str s, .int _ i => (gOk gd → 0 ≤ i ∧ i < s.length) ∧ k (.int .u8 (s.getD i.toNat 0).toNat) st
      | _, _, _ => False) (ev x (by simp [Op.operands])) fun u => ?_
    refine fixes_ev (x := ix) (G := fun i st k => match tdOf P t, u, i with
      | .str, .str s, .int _ i => (gOk gd → 0 ≤ i ∧ i < s.length) ∧ k (.int .u8 (s.getD i.toNat 0).toNat) st
      | _, _, _ => False) (ev ix (by simp [Op.operands])) fun u2 => ?_
    split
    · exact fixes_and (fixes_ret _)
    · exact fixes_false
  case h_18 x i =>
    have e : fi.takes dst = false := by simpa using hf
    refine Fixes.congr (W' := fun st k => un gd (st.ev x) fun v => match v with
      | .tup vs => match vs[i]? with
        | some v => k (share v) st
        | none => False
      | _ => False) ?_ fun st hs k => ?_
    · refine fixes_ev (x := x) (G := fun v st k => match v with
        | .tup vs => match vs[i]? with
          | some v => k (share v) st
          | none => False
        | _ => False) (ev x (by simp [Op.operands])) fun u => ?_
      split
      · split
        · exact fixes_ret _
        · exact fixes_false
      · exact fixes_false
    · show wD_extract P fi m gd dst x i st k ↔ _
      simp only [wD_extract, e, Bool.and_false, Bool.false_eq_true, if_false]
      exact Iff.rfl
  case h_19 => cases hf
end
end Go.Proofs.YtkpdlbidadcdjaaDoor.Abs
