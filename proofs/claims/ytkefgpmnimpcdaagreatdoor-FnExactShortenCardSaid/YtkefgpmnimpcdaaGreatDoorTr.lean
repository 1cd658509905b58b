/- Trees of data: how they lie in cells; sizes, marks. No condition. -/
import Derived.Test.YtkefgpmnimpcdaaGreatDoorAbsT
set_option linter.unusedVariables false
set_option linter.unusedSimpArgs false
namespace Go.Proofs.YtkefgpmnimpcdaaGreatDoor.Abs
open Go
abbrev Bs := List UInt8
/-- Who holds the slices of a tree. -/
inductive Md where
  | no | of | ex
def Md.ow : Md → TypeId → Ow
  | .no, _ => .no
  | .of, e => .of e
  | .ex, e => .ex e
@[simp] theorem Md.ow_no {e : TypeId} : Md.no.ow e = .no := rfl
@[simp] theorem Md.ow_of {e : TypeId} : Md.of.ow e = .of e := rfl
@[simp] theorem Md.ow_ex {e : TypeId} : Md.ex.ow e = .ex e := rfl

/-- A tree of data: 'sl e rows': a slice with elements of type e, each a row of cells. -/
inductive Tr where
  | bool (b : Bool)
  | int (k : IntKind) (n : Int)
  | str (s : Bs)
  | sl (e : TypeId) (rows : List (List Tr))

mutual
def encT (m : Md) : Tr → AC
  | .bool b => .bool b
  | .int k n => .int k n
  | .str s => .str s
  | .sl e rows => .sl (m.ow e) rows.length (encR m rows)
def encL (m : Md) : List Tr → List AC
  | [] => []
  | t :: ts => encT m t :: encL m ts
def encR (m : Md) : List (List Tr) → List AC
  | [] => []
  | r :: rs => encL m r ++ encR m rs
end

theorem encL_len {m : Md} : ∀ {r : List Tr}, (encL m r).length = r.length := by
  intro r; induction r with
  | nil => rfl
  | cons t ts ih => simp [encL, ih]
theorem encL_app {m : Md} {a b : List Tr} : encL m (a ++ b) = encL m a ++ encL m b := by
  induction a with
  | nil => simp [encL]
  | cons t ts ih => simp [encL, ih]
theorem encR_app {m : Md} {a b : List (List Tr)} : encR m (a ++ b) = encR m a ++ encR m b := by
  induction a with
  | nil => simp [encR]
  | cons t ts ih => simp [encR, ih]
theorem encR_len {m : Md} {k : Nat} : ∀ {rs : List (List Tr)}, (∀ r ∈ rs, r.length = k) → (encR m rs).length = rs.length * k := by
  intro rs; induction rs with
  | nil => intro _; simp [encR]
  | cons r rs ih =>
    intro h
    simp only [encR, List.length_append, encL_len, List.length_cons]
    rw [h r List.mem_cons_self, ih (fun r hr => h r (List.mem_cons_of_mem _ hr)), Nat.add_mul]; omega

/-- What the slices' right to be looked at makes of a tree. -/
theorem shareL_nil' : shareL [] = [] := rfl
mutual
theorem share_of : ∀ t : Tr, share (encT .of t) = encT .no t
  | .bool b => by simp [encT]
  | .int k n => by simp [encT]
  | .str s => by simp [encT]
  | .sl e rows => by simp only [encT, Md.ow_of, Md.ow_no, share]; rw [shareL_ofR rows]
theorem shareL_of : ∀ r : List Tr, shareL (encL .of r) = encL .no r
  | [] => by simp [encL]
  | t :: ts => by simp only [encL, shareL]; rw [share_of t, shareL_of ts]
theorem shareL_ofR : ∀ rs : List (List Tr), shareL (encR .of rs) = encR .no rs
  | [] => by simp [encR]
  | r :: rs => by
    simp only [encR]; rw [shareL_eq, List.map_append, ← shareL_eq, ← shareL_eq, shareL_of r, shareL_ofR rs]
end
theorem lendL_app {a b : List AC} : lendL (a ++ b) = lendL a ++ lendL b := by
  induction a with
  | nil => simp [lendL]
  | cons t ts ih => simp [lendL, ih]
theorem toExL_app {a b : List AC} : toExL (a ++ b) = toExL a ++ toExL b := by
  induction a with
  | nil => simp [toExL]
  | cons t ts ih => simp [toExL, ih]
theorem unxL_app {a b : List AC} : unxL (a ++ b) = unxL a ++ unxL b := by
  induction a with
  | nil => simp [unxL]
  | cons t ts ih => simp [unxL, ih]
theorem closedL_app {a b : List AC} : closedL (a ++ b) = (closedL a && closedL b) := by
  induction a with
  | nil => simp [closedL]
  | cons t ts ih => simp [closedL, ih, Bool.and_assoc]
mutual
theorem lend_enc : ∀ (m : Md) (t : Tr), lendS (encT m t) = encT .no t
  | m, .bool b => by simp [encT]
  | m, .int k n => by simp [encT]
  | m, .str s => by simp [encT]
  | .no, .sl e rows => by simp only [encT, Md.ow_no, lendS]
  | .of, .sl e rows => by simp only [encT, Md.ow_no, Md.ow_of, lendS]; rw [lend_encR .of rows]
  | .ex, .sl e rows => by simp only [encT, Md.ow_no, Md.ow_ex, lendS]; rw [lend_encR .ex rows]
theorem lend_encL : ∀ (m : Md) (r : List Tr), lendL (encL m r) = encL .no r
  | m, [] => by simp [encL]
  | m, t :: ts => by simp only [encL, lendL]; rw [lend_enc m t, lend_encL m ts]
theorem lend_encR : ∀ (m : Md) (rs : List (List Tr)), lendL (encR m rs) = encR .no rs
  | m, [] => by simp [encR]
  | m, r :: rs => by simp only [encR]; rw [lendL_app, lend_encL m r, lend_encR m rs]
end
mutual
theorem closed_of : ∀ t : Tr, closed (encT .of t) = true
  | .bool b => by simp [encT]
  | .int k n => by simp [encT]
  | .str s => by simp [encT]
  | .sl e rows => by simp only [encT, Md.ow_of, closed]; exact closed_ofR rows
theorem closed_ofL : ∀ r : List Tr, closedL (encL .of r) = true
  | [] => by simp [encL]
  | t :: ts => by simp only [encL, closedL]; rw [closed_of t, closed_ofL ts]; rfl
theorem closed_ofR : ∀ rs : List (List Tr), closedL (encR .of rs) = true
  | [] => by simp [encR]
  | r :: rs => by simp only [encR]; rw [closedL_app, closed_ofL r, closed_ofR rs]; rfl
end
mutual
theorem closed_ex : ∀ t : Tr, closed (encT .ex t) = true
  | .bool b => by simp [encT]
  | .int k n => by simp [encT]
  | .str s => by simp [encT]
  | .sl e rows => by simp only [encT, Md.ow_ex, closed]; exact closed_exR rows
theorem closed_exL : ∀ r : List Tr, closedL (encL .ex r) = true
  | [] => by simp [encL]
  | t :: ts => by simp only [encL, closedL]; rw [closed_ex t, closed_exL ts]; rfl
theorem closed_exR : ∀ rs : List (List Tr), closedL (encR .ex rs) = true
  | [] => by simp [encR]
  | r :: rs => by simp only [encR]; rw [closedL_app, closed_exL r, closed_exR rs]; rfl
end
mutual
theorem toEx_of : ∀ t : Tr, toEx (encT .of t) = encT .ex t
  | .bool b => by simp [encT]
  | .int k n => by simp [encT]
  | .str s => by simp [encT]
  | .sl e rows => by simp only [encT, Md.ow_of, Md.ow_ex, toEx]; rw [toEx_ofR rows]
theorem toEx_ofL : ∀ r : List Tr, toExL (encL .of r) = encL .ex r
  | [] => by simp [encL]
  | t :: ts => by simp only [encL, toExL]; rw [toEx_of t, toEx_ofL ts]
theorem toEx_ofR : ∀ rs : List (List Tr), toExL (encR .of rs) = encR .ex rs
  | [] => by simp [encR]
  | r :: rs => by simp only [encR]; rw [toExL_app, toEx_ofL r, toEx_ofR rs]
end
mutual
theorem toEx_ex : ∀ t : Tr, toEx (encT .ex t) = encT .ex t
  | .bool b => by simp [encT]
  | .int k n => by simp [encT]
  | .str s => by simp [encT]
  | .sl e rows => by simp only [encT, Md.ow_ex, toEx]; rw [toEx_exR rows]
theorem toEx_exL : ∀ r : List Tr, toExL (encL .ex r) = encL .ex r
  | [] => by simp [encL]
  | t :: ts => by simp only [encL, toExL]; rw [toEx_ex t, toEx_exL ts]
theorem toEx_exR : ∀ rs : List (List Tr), toExL (encR .ex rs) = encR .ex rs
  | [] => by simp [encR]
  | r :: rs => by simp only [encR]; rw [toExL_app, toEx_exL r, toEx_exR rs]
end
mutual
theorem unx_ex : ∀ t : Tr, unx (encT .ex t) = encT .ex t
  | .bool b => by simp [encT]
  | .int k n => by simp [encT]
  | .str s => by simp [encT]
  | .sl e rows => by simp only [encT, Md.ow_ex, unx]; rw [unx_exR rows]
theorem unx_exL : ∀ r : List Tr, unxL (encL .ex r) = encL .ex r
  | [] => by simp [encL]
  | t :: ts => by simp only [encL, unxL]; rw [unx_ex t, unx_exL ts]
theorem unx_exR : ∀ rs : List (List Tr), unxL (encR .ex rs) = encR .ex rs
  | [] => by simp [encR]
  | r :: rs => by simp only [encR]; rw [unxL_app, unx_exL r, unx_exR rs]
end
theorem shareL_no' : ∀ (cs : List AC), (∀ c ∈ cs, share c = c) → shareL cs = cs := by
  intro cs h; rw [shareL_eq]; conv => rhs; rw [← List.map_id cs]
  exact List.map_congr_left h
theorem share_no : ∀ t : Tr, share (encT .no t) = encT .no t
  | .bool b => by simp [encT]
  | .int k n => by simp [encT]
  | .str s => by simp [encT]
  | .sl e rows => by simp only [encT, Md.ow_no, share]
theorem shareL_no : ∀ r : List Tr, shareL (encL .no r) = encL .no r
  | [] => by simp [encL]
  | t :: ts => by simp only [encL, shareL]; rw [share_no t, shareL_no ts]
theorem shareL_noR : ∀ rs : List (List Tr), shareL (encR .no rs) = encR .no rs
  | [] => by simp [encR]
  | r :: rs => by
    simp only [encR]; rw [shareL_eq, List.map_append, ← shareL_eq, ← shareL_eq, shareL_no r, shareL_noR rs]
attribute [simp] lend_encL shareL_no shareL_of shareL_ofR lend_encR closed_ofR closed_exR toEx_ofR toEx_exR unx_exR shareL_noR

@[simp] theorem mapC_encL {m : Md} {f : AC → AC} {r : List Tr} : (encL m r).map (mapC f) = encL m r := by
  induction r with
  | nil => rfl
  | cons t ts ih => cases t <;> simp [encL, encT, mapC, ih]
@[simp] theorem lowC_encL {m : Md} {n : Nat} {r : List Tr} : (encL m r).mapM (lowC n) = some (encL m r) := by
  induction r with
  | nil => rfl
  | cons t ts ih => cases t <;> simp [encL, encT, lowC, ih]
theorem flat_enc {m : Md} : ∀ {r : List Tr} (c : AC), c ∈ encL m r → flat c = true := by
  intro r
  induction r with
  | nil => intro c h; simp [encL] at h
  | cons t ts ih =>
    intro c h
    simp only [encL, List.mem_cons] at h
    rcases h with rfl | h
    · cases t <;> simp [encT]
    · exact ih c h
@[simp] theorem flat_all {m : Md} {r : List Tr} : (encL m r).all flat = true := List.all_eq_true.2 fun c h => flat_enc c h
/-! How much a tree weighs. -/
mutual
def szT : Tr → Nat
  | .str s => s.length
  | .sl _ rows => rows.length + szR rows
  | _ => 0
def szL : List Tr → Nat
  | [] => 0
  | t :: ts => szT t + szL ts
def szR : List (List Tr) → Nat
  | [] => 0
  | r :: rs => szL r + szR rs
end
theorem szR_app {a b : List (List Tr)} : szR (a ++ b) = szR a + szR b := by
  induction a with
  | nil => simp [szR]
  | cons t ts ih => simp [szR, ih]; omega
theorem szR_take_le {rs : List (List Tr)} (i : Nat) : szR (rs.take i) ≤ szR rs := by
  conv => rhs; rw [← List.take_append_drop i rs, szR_app]
  omega
theorem szR_get {rs : List (List Tr)} {i : Nat} {r : List Tr} (h : rs[i]? = some r) : szR (rs.take (i + 1)) = szR (rs.take i) + szL r := by
  rw [List.take_add_one, h, szR_app]; simp [szR]

/-- Elements of a slice. -/
theorem row_at {m : Md} {k : Nat} : ∀ {rs : List (List Tr)} {i : Nat} {r : List Tr}, (∀ r ∈ rs, r.length = k) → rs[i]? = some r → ((encR m rs).drop (i * k)).take k = encL m r := by
  intro rs
  induction rs with
  | nil => intro i r _ h; simp at h
  | cons r0 rs ih =>
    intro i r hl h
    have h0 := hl r0 List.mem_cons_self
    cases i with
    | zero =>
      simp at h; subst h
      simp only [encR, Nat.zero_mul, List.drop_zero]
      rw [List.take_append_of_le_length (by rw [encL_len]; omega), List.take_of_length_le (by rw [encL_len]; omega)]
    | succ i =>
      simp only [List.getElem?_cons_succ] at h
      simp only [encR]
      rw [List.drop_append, List.drop_of_length_le (by rw [encL_len, h0, Nat.add_mul]; omega), List.nil_append, encL_len, h0, show (i + 1) * k - k = i * k by rw [Nat.add_mul]; omega]
      exact ih (fun r hr => hl r (List.mem_cons_of_mem _ hr)) h
/-- The first i rows are told, the rest are as they were made. -/
def filled (m : Md) (z : List AC) (rs : List (List Tr)) (i : Nat) : List AC := encR m (rs.take i) ++ (List.replicate (rs.length - i) z).flatten
theorem filled_zero {m : Md} {z : List AC} {rs : List (List Tr)} : filled m z rs 0 = (List.replicate rs.length z).flatten := by simp [filled, encR]
theorem filled_all {m : Md} {z : List AC} {rs : List (List Tr)} : filled m z rs rs.length = encR m rs := by simp [filled]
theorem filled_len {m : Md} {z : List AC} {rs : List (List Tr)} {i k : Nat} (hl : ∀ r ∈ rs, r.length = k) (hz : z.length = k) (hi : i ≤ rs.length) : (filled m z rs i).length = rs.length * k := by
  unfold filled
  rw [List.length_append, encR_len (k := k) (fun r hr => hl r (List.mem_of_mem_take hr)), List.length_take, Nat.min_eq_left hi]
  simp only [List.length_flatten, List.map_replicate, List.sum_replicate_nat, hz]
  rw [← Nat.add_mul]; congr 1; omega
theorem filled_next {m : Md} {z : List AC} {rs : List (List Tr)} {i k : Nat} {r : List Tr} (hl : ∀ r ∈ rs, r.length = k) (hz : z.length = k) (h : rs[i]? = some r) :
    putCells (filled m z rs i) (i * k) (encL m r) = filled m z rs (i + 1) := by
  have hlt := (List.getElem?_eq_some_iff.1 h).1
  have hr : r.length = k := hl r (List.mem_of_getElem? h)
  have hk : (encR m (rs.take i)).length = i * k := by
    rw [encR_len (k := k) (fun r hr => hl r (List.mem_of_mem_take hr)), List.length_take, Nat.min_eq_left (by omega)]
  unfold putCells filled
  rw [List.take_append_of_le_length (by omega), List.take_of_length_le (by omega), List.drop_append, List.drop_of_length_le (by omega), List.nil_append, encL_len, hr, hk,
    show i * k + k - i * k = k by omega, List.take_add_one, h, encR_app]
  simp only [Option.toList, encR, List.append_nil]
  congr 1
  rw [show rs.length - i = (rs.length - (i + 1)) + 1 by omega, List.replicate_succ, List.flatten_cons]
  rw [List.drop_append, List.drop_of_length_le (by omega), hz]; simp

/-- What a size leaves. -/
def SZ (l : Int) (s : Nat) (r : Int) : Prop := (r = -1 ∧ l < s) ∨ (r = l - s ∧ (s : Int) ≤ l)
def subz (l : Int) (s : Nat) : Int := if l < s then -1 else l - s
theorem subz_SZ (l : Int) (s : Nat) : SZ l s (subz l s) := by unfold SZ subz; split <;> omega
theorem SZ_eq {l : Int} {s : Nat} {r : Int} (h : SZ l s r) : r = subz l s := by unfold SZ at h; unfold subz; split <;> omega
theorem wrap64 {n : Int} (h1 : -9223372036854775808 ≤ n) (h2 : n < 9223372036854775808) : IntKind.i64.wrap n = n := by
  rw [IntKind.wrap_i64]; omega
/-- Are two values one? -/
noncomputable def eqB {α : Type} (a b : α) : Bool := @decide (a = b) (Classical.propDecidable _)
theorem eqB_iff {α : Type} {a b : α} : eqB a b = true ↔ a = b := by unfold eqB; simp
theorem eqB_self {α : Type} {a : α} : eqB a a = true := eqB_iff.2 rfl
theorem eqB_ne {α : Type} {a b : α} (h : a ≠ b) : eqB a b = false := by unfold eqB; simp [h]
end Go.Proofs.YtkefgpmnimpcdaaGreatDoor.Abs
