/- PRINTED by data.py: the types of the data, and how they lie in cells. No condition. -/
import Derived.Test.YtkefgpmnimpcdaaGreatDoorTr
set_option linter.unusedVariables false
set_option linter.unusedSimpArgs false
namespace Go.Proofs.YtkefgpmnimpcdaaGreatDoor.Abs
open Go
def tStrS : List Bs → List (List Tr)
  | [] => []
  | x :: xs => [.str x] :: tStrS xs
def tIntS : List Int → List (List Tr)
  | [] => []
  | x :: xs => [.int .i64 x] :: tIntS xs
theorem tStrS_map : ∀ {xs : List Bs}, tStrS xs = xs.map (fun s => [Tr.str s]) := by
  intro xs; induction xs with
  | nil => simp [tStrS]
  | cons x xs ih => simp [tStrS, ih]
@[simp] theorem tStrS_len {xs : List Bs} : (tStrS xs).length = xs.length := by rw [tStrS_map]; simp
theorem tStrS_rows {xs : List Bs} : ∀ r ∈ tStrS xs, r.length = 1 := by
  intro r hr; rw [tStrS_map] at hr; obtain ⟨x, _, rfl⟩ := List.mem_map.1 hr; rfl
theorem tStrS_get {xs : List Bs} {i : Nat} {x : Bs} (h : xs[i]? = some x) : (tStrS xs)[i]? = some ((fun s => [Tr.str s]) x) := by rw [tStrS_map]; simp [h]
theorem tStrS_app {a b : List Bs} : tStrS (a ++ b) = tStrS a ++ tStrS b := by rw [tStrS_map, tStrS_map, tStrS_map]; simp
theorem tStrS_take {a : List Bs} {i : Nat} : (tStrS a).take i = tStrS (a.take i) := by rw [tStrS_map, tStrS_map]; simp
theorem tStrS_drop {a : List Bs} {i : Nat} : (tStrS a).drop i = tStrS (a.drop i) := by rw [tStrS_map, tStrS_map]; simp
theorem encStrS_len {m : Md} {xs : List Bs} : (encR m (tStrS xs)).length = xs.length * 1 := by rw [encR_len tStrS_rows, tStrS_len]
theorem atStr {m : Md} {xs : List Bs} {i : Nat} {x : Bs} (h : xs[i]? = some x) : ((encR m (tStrS xs)).drop (i * 1)).take 1 = encL m ((fun s => [Tr.str s]) x) := row_at tStrS_rows (tStrS_get h)
theorem tIntS_map : ∀ {xs : List Int}, tIntS xs = xs.map (fun s => [Tr.int .i64 s]) := by
  intro xs; induction xs with
  | nil => simp [tIntS]
  | cons x xs ih => simp [tIntS, ih]
@[simp] theorem tIntS_len {xs : List Int} : (tIntS xs).length = xs.length := by rw [tIntS_map]; simp
theorem tIntS_rows {xs : List Int} : ∀ r ∈ tIntS xs, r.length = 1 := by
  intro r hr; rw [tIntS_map] at hr; obtain ⟨x, _, rfl⟩ := List.mem_map.1 hr; rfl
theorem tIntS_get {xs : List Int} {i : Nat} {x : Int} (h : xs[i]? = some x) : (tIntS xs)[i]? = some ((fun s => [Tr.int .i64 s]) x) := by rw [tIntS_map]; simp [h]
theorem tIntS_app {a b : List Int} : tIntS (a ++ b) = tIntS a ++ tIntS b := by rw [tIntS_map, tIntS_map, tIntS_map]; simp
theorem tIntS_take {a : List Int} {i : Nat} : (tIntS a).take i = tIntS (a.take i) := by rw [tIntS_map, tIntS_map]; simp
theorem tIntS_drop {a : List Int} {i : Nat} : (tIntS a).drop i = tIntS (a.drop i) := by rw [tIntS_map, tIntS_map]; simp
theorem encIntS_len {m : Md} {xs : List Int} : (encR m (tIntS xs)).length = xs.length * 1 := by rw [encR_len tIntS_rows, tIntS_len]
theorem atInt {m : Md} {xs : List Int} {i : Nat} {x : Int} (h : xs[i]? = some x) : ((encR m (tIntS xs)).drop (i * 1)).take 1 = encL m ((fun s => [Tr.int .i64 s]) x) := row_at tIntS_rows (tIntS_get h)
theorem tStrS_inj : ∀ {a b : List Bs}, tStrS a = tStrS b → a = b := by
  intro a; induction a with
  | nil => intro b h; cases b with
    | nil => rfl
    | cons _ _ => simp [tStrS] at h
  | cons x a ih => intro b h; cases b with
    | nil => simp [tStrS] at h
    | cons y b => simp only [tStrS, List.cons.injEq, Tr.str.injEq, and_true] at h; rw [h.1, ih h.2]
theorem tIntS_inj : ∀ {a b : List Int}, tIntS a = tIntS b → a = b := by
  intro a; induction a with
  | nil => intro b h; cases b with
    | nil => rfl
    | cons _ _ => simp [tIntS] at h
  | cons x a ih => intro b h; cases b with
    | nil => simp [tIntS] at h
    | cons y b => simp only [tIntS, List.cons.injEq, Tr.int.injEq, true_and, and_true] at h; rw [h.1, ih h.2]
structure DToken where
  kind : Int
  text : Bs
  at_ : Int
def tToken : DToken → List Tr
  | ⟨x0, x1, x2⟩ => [.int .i64 x0, .str x1, .int .i64 x2]
def tTokenS : List DToken → List (List Tr)
  | [] => []
  | x :: xs => tToken x :: tTokenS xs
theorem tToken_len (x : DToken) : (tToken x).length = 3 := by obtain ⟨x0, x1, x2⟩ := x; simp [tToken]
theorem tTokenS_map : ∀ {xs : List DToken}, tTokenS xs = xs.map tToken := by
  intro xs; induction xs with
  | nil => simp [tTokenS]
  | cons x xs ih => simp [tTokenS, ih]
@[simp] theorem tTokenS_len {xs : List DToken} : (tTokenS xs).length = xs.length := by rw [tTokenS_map]; simp
theorem tTokenS_rows {xs : List DToken} : ∀ r ∈ tTokenS xs, r.length = 3 := by
  intro r hr; rw [tTokenS_map] at hr; obtain ⟨x, _, rfl⟩ := List.mem_map.1 hr; exact tToken_len x
theorem tTokenS_get {xs : List DToken} {i : Nat} {x : DToken} (h : xs[i]? = some x) : (tTokenS xs)[i]? = some (tToken x) := by rw [tTokenS_map]; simp [h]
theorem tTokenS_app {a b : List DToken} : tTokenS (a ++ b) = tTokenS a ++ tTokenS b := by rw [tTokenS_map, tTokenS_map, tTokenS_map]; simp
theorem tTokenS_take {a : List DToken} {i : Nat} : (tTokenS a).take i = tTokenS (a.take i) := by rw [tTokenS_map, tTokenS_map]; simp
theorem tTokenS_drop {a : List DToken} {i : Nat} : (tTokenS a).drop i = tTokenS (a.drop i) := by rw [tTokenS_map, tTokenS_map]; simp
theorem encTokenS_len {m : Md} {xs : List DToken} : (encR m (tTokenS xs)).length = xs.length * 3 := by rw [encR_len tTokenS_rows, tTokenS_len]
theorem atToken {m : Md} {xs : List DToken} {i : Nat} {x : DToken} (h : xs[i]? = some x) : ((encR m (tTokenS xs)).drop (i * 3)).take 3 = encL m (tToken x) := row_at tTokenS_rows (tTokenS_get h)
theorem tToken_inj : ∀ {a b : DToken}, tToken a = tToken b → a = b := by
  intro a b h
  obtain ⟨x0, x1, x2⟩ := a
  obtain ⟨y0, y1, y2⟩ := b
  simp only [tToken, List.append_assoc, List.cons_append, List.nil_append, List.cons.injEq, Tr.int.injEq, Tr.str.injEq, Tr.bool.injEq, Tr.sl.injEq, true_and, and_true] at h
  obtain ⟨h0, h1, h2⟩ := h
  subst_vars; rfl
theorem tTokenS_inj : ∀ {a b : List DToken}, tTokenS a = tTokenS b → a = b := by
  intro a; induction a with
  | nil => intro b h; cases b with
    | nil => rfl
    | cons _ _ => simp [tTokenS] at h
  | cons x a ih => intro b h; cases b with
    | nil => simp [tTokenS] at h
    | cons y b => simp only [tTokenS, List.cons.injEq] at h; rw [tToken_inj h.1, ih h.2]
structure DValue where
  kind : Int
  text : Bs
  items : List DValue
  names : List Bs
mutual
def tValue : DValue → List Tr
  | ⟨x0, x1, x2, x3⟩ => [.int .i64 x0, .str x1, .sl 39 (tValueS x2), .sl 9 (tStrS x3)]
def tValueS : List DValue → List (List Tr)
  | [] => []
  | x :: xs => tValue x :: tValueS xs
end
theorem tValue_len (x : DValue) : (tValue x).length = 4 := by obtain ⟨x0, x1, x2, x3⟩ := x; simp [tValue]
theorem tValueS_map : ∀ {xs : List DValue}, tValueS xs = xs.map tValue := by
  intro xs; induction xs with
  | nil => simp [tValueS]
  | cons x xs ih => simp [tValueS, ih]
@[simp] theorem tValueS_len {xs : List DValue} : (tValueS xs).length = xs.length := by rw [tValueS_map]; simp
theorem tValueS_rows {xs : List DValue} : ∀ r ∈ tValueS xs, r.length = 4 := by
  intro r hr; rw [tValueS_map] at hr; obtain ⟨x, _, rfl⟩ := List.mem_map.1 hr; exact tValue_len x
theorem tValueS_get {xs : List DValue} {i : Nat} {x : DValue} (h : xs[i]? = some x) : (tValueS xs)[i]? = some (tValue x) := by rw [tValueS_map]; simp [h]
theorem tValueS_app {a b : List DValue} : tValueS (a ++ b) = tValueS a ++ tValueS b := by rw [tValueS_map, tValueS_map, tValueS_map]; simp
theorem tValueS_take {a : List DValue} {i : Nat} : (tValueS a).take i = tValueS (a.take i) := by rw [tValueS_map, tValueS_map]; simp
theorem tValueS_drop {a : List DValue} {i : Nat} : (tValueS a).drop i = tValueS (a.drop i) := by rw [tValueS_map, tValueS_map]; simp
theorem encValueS_len {m : Md} {xs : List DValue} : (encR m (tValueS xs)).length = xs.length * 4 := by rw [encR_len tValueS_rows, tValueS_len]
theorem atValue {m : Md} {xs : List DValue} {i : Nat} {x : DValue} (h : xs[i]? = some x) : ((encR m (tValueS xs)).drop (i * 4)).take 4 = encL m (tValue x) := row_at tValueS_rows (tValueS_get h)
mutual
theorem tValue_inj : ∀ {a b : DValue}, tValue a = tValue b → a = b
  | ⟨x0, x1, x2, x3⟩, ⟨y0, y1, y2, y3⟩, h => by
    simp only [tValue, List.append_assoc, List.cons_append, List.nil_append, List.cons.injEq, Tr.int.injEq, Tr.str.injEq, Tr.bool.injEq, Tr.sl.injEq, true_and, and_true] at h
    obtain ⟨h0, h1, h2, h3⟩ := h
    have h2 := tValueS_inj h2
    have h3 := tStrS_inj h3
    subst_vars; rfl
theorem tValueS_inj : ∀ {a b : List DValue}, tValueS a = tValueS b → a = b
  | [], [], _ => rfl
  | [], _ :: _, h => by simp [tValueS] at h
  | _ :: _, [], h => by simp [tValueS] at h
  | x :: xs, y :: ys, h => by
    simp only [tValueS, List.cons.injEq] at h
    rw [tValue_inj h.1, tValueS_inj h.2]
end
structure DType where
  name : Bs
  wraps : Bs
def tType : DType → List Tr
  | ⟨x0, x1⟩ => [.str x0, .str x1]
def tTypeS : List DType → List (List Tr)
  | [] => []
  | x :: xs => tType x :: tTypeS xs
theorem tType_len (x : DType) : (tType x).length = 2 := by obtain ⟨x0, x1⟩ := x; simp [tType]
theorem tTypeS_map : ∀ {xs : List DType}, tTypeS xs = xs.map tType := by
  intro xs; induction xs with
  | nil => simp [tTypeS]
  | cons x xs ih => simp [tTypeS, ih]
@[simp] theorem tTypeS_len {xs : List DType} : (tTypeS xs).length = xs.length := by rw [tTypeS_map]; simp
theorem tTypeS_rows {xs : List DType} : ∀ r ∈ tTypeS xs, r.length = 2 := by
  intro r hr; rw [tTypeS_map] at hr; obtain ⟨x, _, rfl⟩ := List.mem_map.1 hr; exact tType_len x
theorem tTypeS_get {xs : List DType} {i : Nat} {x : DType} (h : xs[i]? = some x) : (tTypeS xs)[i]? = some (tType x) := by rw [tTypeS_map]; simp [h]
theorem tTypeS_app {a b : List DType} : tTypeS (a ++ b) = tTypeS a ++ tTypeS b := by rw [tTypeS_map, tTypeS_map, tTypeS_map]; simp
theorem tTypeS_take {a : List DType} {i : Nat} : (tTypeS a).take i = tTypeS (a.take i) := by rw [tTypeS_map, tTypeS_map]; simp
theorem tTypeS_drop {a : List DType} {i : Nat} : (tTypeS a).drop i = tTypeS (a.drop i) := by rw [tTypeS_map, tTypeS_map]; simp
theorem encTypeS_len {m : Md} {xs : List DType} : (encR m (tTypeS xs)).length = xs.length * 2 := by rw [encR_len tTypeS_rows, tTypeS_len]
theorem atType {m : Md} {xs : List DType} {i : Nat} {x : DType} (h : xs[i]? = some x) : ((encR m (tTypeS xs)).drop (i * 2)).take 2 = encL m (tType x) := row_at tTypeS_rows (tTypeS_get h)
theorem tType_inj : ∀ {a b : DType}, tType a = tType b → a = b := by
  intro a b h
  obtain ⟨x0, x1⟩ := a
  obtain ⟨y0, y1⟩ := b
  simp only [tType, List.append_assoc, List.cons_append, List.nil_append, List.cons.injEq, Tr.int.injEq, Tr.str.injEq, Tr.bool.injEq, Tr.sl.injEq, true_and, and_true] at h
  obtain ⟨h0, h1⟩ := h
  subst_vars; rfl
theorem tTypeS_inj : ∀ {a b : List DType}, tTypeS a = tTypeS b → a = b := by
  intro a; induction a with
  | nil => intro b h; cases b with
    | nil => rfl
    | cons _ _ => simp [tTypeS] at h
  | cons x a ih => intro b h; cases b with
    | nil => simp [tTypeS] at h
    | cons y b => simp only [tTypeS, List.cons.injEq] at h; rw [tType_inj h.1, ih h.2]
structure DArg where
  name : Bs
  value : DValue
def tArg : DArg → List Tr
  | ⟨x0, x1⟩ => [.str x0] ++ tValue x1
def tArgS : List DArg → List (List Tr)
  | [] => []
  | x :: xs => tArg x :: tArgS xs
theorem tArg_len (x : DArg) : (tArg x).length = 5 := by obtain ⟨x0, x1⟩ := x; simp [tArg, tValue_len]
theorem tArgS_map : ∀ {xs : List DArg}, tArgS xs = xs.map tArg := by
  intro xs; induction xs with
  | nil => simp [tArgS]
  | cons x xs ih => simp [tArgS, ih]
@[simp] theorem tArgS_len {xs : List DArg} : (tArgS xs).length = xs.length := by rw [tArgS_map]; simp
theorem tArgS_rows {xs : List DArg} : ∀ r ∈ tArgS xs, r.length = 5 := by
  intro r hr; rw [tArgS_map] at hr; obtain ⟨x, _, rfl⟩ := List.mem_map.1 hr; exact tArg_len x
theorem tArgS_get {xs : List DArg} {i : Nat} {x : DArg} (h : xs[i]? = some x) : (tArgS xs)[i]? = some (tArg x) := by rw [tArgS_map]; simp [h]
theorem tArgS_app {a b : List DArg} : tArgS (a ++ b) = tArgS a ++ tArgS b := by rw [tArgS_map, tArgS_map, tArgS_map]; simp
theorem tArgS_take {a : List DArg} {i : Nat} : (tArgS a).take i = tArgS (a.take i) := by rw [tArgS_map, tArgS_map]; simp
theorem tArgS_drop {a : List DArg} {i : Nat} : (tArgS a).drop i = tArgS (a.drop i) := by rw [tArgS_map, tArgS_map]; simp
theorem encArgS_len {m : Md} {xs : List DArg} : (encR m (tArgS xs)).length = xs.length * 5 := by rw [encR_len tArgS_rows, tArgS_len]
theorem atArg {m : Md} {xs : List DArg} {i : Nat} {x : DArg} (h : xs[i]? = some x) : ((encR m (tArgS xs)).drop (i * 5)).take 5 = encL m (tArg x) := row_at tArgS_rows (tArgS_get h)
theorem tArg_inj : ∀ {a b : DArg}, tArg a = tArg b → a = b := by
  intro a b h
  obtain ⟨x0, ⟨x1_0, x1_1, x1_2, x1_3⟩⟩ := a
  obtain ⟨y0, ⟨y1_0, y1_1, y1_2, y1_3⟩⟩ := b
  simp only [tArg, tValue, List.append_assoc, List.cons_append, List.nil_append, List.cons.injEq, Tr.int.injEq, Tr.str.injEq, Tr.bool.injEq, Tr.sl.injEq, true_and, and_true] at h
  obtain ⟨h0, h1, h2, h3, h4⟩ := h
  have h3 := tValueS_inj h3
  have h4 := tStrS_inj h4
  subst_vars; rfl
theorem tArgS_inj : ∀ {a b : List DArg}, tArgS a = tArgS b → a = b := by
  intro a; induction a with
  | nil => intro b h; cases b with
    | nil => rfl
    | cons _ _ => simp [tArgS] at h
  | cons x a ih => intro b h; cases b with
    | nil => simp [tArgS] at h
    | cons y b => simp only [tArgS, List.cons.injEq] at h; rw [tArg_inj h.1, ih h.2]
structure DDir where
  name : Bs
  args : List DArg
def tDir : DDir → List Tr
  | ⟨x0, x1⟩ => [.str x0, .sl 264 (tArgS x1)]
def tDirS : List DDir → List (List Tr)
  | [] => []
  | x :: xs => tDir x :: tDirS xs
theorem tDir_len (x : DDir) : (tDir x).length = 2 := by obtain ⟨x0, x1⟩ := x; simp [tDir]
theorem tDirS_map : ∀ {xs : List DDir}, tDirS xs = xs.map tDir := by
  intro xs; induction xs with
  | nil => simp [tDirS]
  | cons x xs ih => simp [tDirS, ih]
@[simp] theorem tDirS_len {xs : List DDir} : (tDirS xs).length = xs.length := by rw [tDirS_map]; simp
theorem tDirS_rows {xs : List DDir} : ∀ r ∈ tDirS xs, r.length = 2 := by
  intro r hr; rw [tDirS_map] at hr; obtain ⟨x, _, rfl⟩ := List.mem_map.1 hr; exact tDir_len x
theorem tDirS_get {xs : List DDir} {i : Nat} {x : DDir} (h : xs[i]? = some x) : (tDirS xs)[i]? = some (tDir x) := by rw [tDirS_map]; simp [h]
theorem tDirS_app {a b : List DDir} : tDirS (a ++ b) = tDirS a ++ tDirS b := by rw [tDirS_map, tDirS_map, tDirS_map]; simp
theorem tDirS_take {a : List DDir} {i : Nat} : (tDirS a).take i = tDirS (a.take i) := by rw [tDirS_map, tDirS_map]; simp
theorem tDirS_drop {a : List DDir} {i : Nat} : (tDirS a).drop i = tDirS (a.drop i) := by rw [tDirS_map, tDirS_map]; simp
theorem encDirS_len {m : Md} {xs : List DDir} : (encR m (tDirS xs)).length = xs.length * 2 := by rw [encR_len tDirS_rows, tDirS_len]
theorem atDir {m : Md} {xs : List DDir} {i : Nat} {x : DDir} (h : xs[i]? = some x) : ((encR m (tDirS xs)).drop (i * 2)).take 2 = encL m (tDir x) := row_at tDirS_rows (tDirS_get h)
theorem tDir_inj : ∀ {a b : DDir}, tDir a = tDir b → a = b := by
  intro a b h
  obtain ⟨x0, x1⟩ := a
  obtain ⟨y0, y1⟩ := b
  simp only [tDir, List.append_assoc, List.cons_append, List.nil_append, List.cons.injEq, Tr.int.injEq, Tr.str.injEq, Tr.bool.injEq, Tr.sl.injEq, true_and, and_true] at h
  obtain ⟨h0, h1⟩ := h
  have h1 := tArgS_inj h1
  subst_vars; rfl
theorem tDirS_inj : ∀ {a b : List DDir}, tDirS a = tDirS b → a = b := by
  intro a; induction a with
  | nil => intro b h; cases b with
    | nil => rfl
    | cons _ _ => simp [tDirS] at h
  | cons x a ih => intro b h; cases b with
    | nil => simp [tDirS] at h
    | cons y b => simp only [tDirS, List.cons.injEq] at h; rw [tDir_inj h.1, ih h.2]
structure DInDef where
  name : Bs
  desc : Bs
  ty : DType
  has : Bool
  dflt : DValue
  dirs : List DDir
def tInDef : DInDef → List Tr
  | ⟨x0, x1, x2, x3, x4, x5⟩ => [.str x0, .str x1] ++ tType x2 ++ [.bool x3] ++ tValue x4 ++ [.sl 219 (tDirS x5)]
def tInDefS : List DInDef → List (List Tr)
  | [] => []
  | x :: xs => tInDef x :: tInDefS xs
theorem tInDef_len (x : DInDef) : (tInDef x).length = 10 := by obtain ⟨x0, x1, x2, x3, x4, x5⟩ := x; simp [tInDef, tType_len, tValue_len]
theorem tInDefS_map : ∀ {xs : List DInDef}, tInDefS xs = xs.map tInDef := by
  intro xs; induction xs with
  | nil => simp [tInDefS]
  | cons x xs ih => simp [tInDefS, ih]
@[simp] theorem tInDefS_len {xs : List DInDef} : (tInDefS xs).length = xs.length := by rw [tInDefS_map]; simp
theorem tInDefS_rows {xs : List DInDef} : ∀ r ∈ tInDefS xs, r.length = 10 := by
  intro r hr; rw [tInDefS_map] at hr; obtain ⟨x, _, rfl⟩ := List.mem_map.1 hr; exact tInDef_len x
theorem tInDefS_get {xs : List DInDef} {i : Nat} {x : DInDef} (h : xs[i]? = some x) : (tInDefS xs)[i]? = some (tInDef x) := by rw [tInDefS_map]; simp [h]
theorem tInDefS_app {a b : List DInDef} : tInDefS (a ++ b) = tInDefS a ++ tInDefS b := by rw [tInDefS_map, tInDefS_map, tInDefS_map]; simp
theorem tInDefS_take {a : List DInDef} {i : Nat} : (tInDefS a).take i = tInDefS (a.take i) := by rw [tInDefS_map, tInDefS_map]; simp
theorem tInDefS_drop {a : List DInDef} {i : Nat} : (tInDefS a).drop i = tInDefS (a.drop i) := by rw [tInDefS_map, tInDefS_map]; simp
theorem encInDefS_len {m : Md} {xs : List DInDef} : (encR m (tInDefS xs)).length = xs.length * 10 := by rw [encR_len tInDefS_rows, tInDefS_len]
theorem atInDef {m : Md} {xs : List DInDef} {i : Nat} {x : DInDef} (h : xs[i]? = some x) : ((encR m (tInDefS xs)).drop (i * 10)).take 10 = encL m (tInDef x) := row_at tInDefS_rows (tInDefS_get h)
theorem tInDef_inj : ∀ {a b : DInDef}, tInDef a = tInDef b → a = b := by
  intro a b h
  obtain ⟨x0, x1, ⟨x2_0, x2_1⟩, x3, ⟨x4_0, x4_1, x4_2, x4_3⟩, x5⟩ := a
  obtain ⟨y0, y1, ⟨y2_0, y2_1⟩, y3, ⟨y4_0, y4_1, y4_2, y4_3⟩, y5⟩ := b
  simp only [tInDef, tType, tValue, List.append_assoc, List.cons_append, List.nil_append, List.cons.injEq, Tr.int.injEq, Tr.str.injEq, Tr.bool.injEq, Tr.sl.injEq, true_and, and_true] at h
  obtain ⟨h0, h1, h2, h3, h4, h5, h6, h7, h8, h9⟩ := h
  have h7 := tValueS_inj h7
  have h8 := tStrS_inj h8
  have h9 := tDirS_inj h9
  subst_vars; rfl
theorem tInDefS_inj : ∀ {a b : List DInDef}, tInDefS a = tInDefS b → a = b := by
  intro a; induction a with
  | nil => intro b h; cases b with
    | nil => rfl
    | cons _ _ => simp [tInDefS] at h
  | cons x a ih => intro b h; cases b with
    | nil => simp [tInDefS] at h
    | cons y b => simp only [tInDefS, List.cons.injEq] at h; rw [tInDef_inj h.1, ih h.2]
structure DFieldDef where
  name : Bs
  desc : Bs
  args : List DInDef
  ty : DType
  dirs : List DDir
def tFieldDef : DFieldDef → List Tr
  | ⟨x0, x1, x2, x3, x4⟩ => [.str x0, .str x1, .sl 77 (tInDefS x2)] ++ tType x3 ++ [.sl 219 (tDirS x4)]
def tFieldDefS : List DFieldDef → List (List Tr)
  | [] => []
  | x :: xs => tFieldDef x :: tFieldDefS xs
theorem tFieldDef_len (x : DFieldDef) : (tFieldDef x).length = 6 := by obtain ⟨x0, x1, x2, x3, x4⟩ := x; simp [tFieldDef, tType_len]
theorem tFieldDefS_map : ∀ {xs : List DFieldDef}, tFieldDefS xs = xs.map tFieldDef := by
  intro xs; induction xs with
  | nil => simp [tFieldDefS]
  | cons x xs ih => simp [tFieldDefS, ih]
@[simp] theorem tFieldDefS_len {xs : List DFieldDef} : (tFieldDefS xs).length = xs.length := by rw [tFieldDefS_map]; simp
theorem tFieldDefS_rows {xs : List DFieldDef} : ∀ r ∈ tFieldDefS xs, r.length = 6 := by
  intro r hr; rw [tFieldDefS_map] at hr; obtain ⟨x, _, rfl⟩ := List.mem_map.1 hr; exact tFieldDef_len x
theorem tFieldDefS_get {xs : List DFieldDef} {i : Nat} {x : DFieldDef} (h : xs[i]? = some x) : (tFieldDefS xs)[i]? = some (tFieldDef x) := by rw [tFieldDefS_map]; simp [h]
theorem tFieldDefS_app {a b : List DFieldDef} : tFieldDefS (a ++ b) = tFieldDefS a ++ tFieldDefS b := by rw [tFieldDefS_map, tFieldDefS_map, tFieldDefS_map]; simp
theorem tFieldDefS_take {a : List DFieldDef} {i : Nat} : (tFieldDefS a).take i = tFieldDefS (a.take i) := by rw [tFieldDefS_map, tFieldDefS_map]; simp
theorem tFieldDefS_drop {a : List DFieldDef} {i : Nat} : (tFieldDefS a).drop i = tFieldDefS (a.drop i) := by rw [tFieldDefS_map, tFieldDefS_map]; simp
theorem encFieldDefS_len {m : Md} {xs : List DFieldDef} : (encR m (tFieldDefS xs)).length = xs.length * 6 := by rw [encR_len tFieldDefS_rows, tFieldDefS_len]
theorem atFieldDef {m : Md} {xs : List DFieldDef} {i : Nat} {x : DFieldDef} (h : xs[i]? = some x) : ((encR m (tFieldDefS xs)).drop (i * 6)).take 6 = encL m (tFieldDef x) := row_at tFieldDefS_rows (tFieldDefS_get h)
theorem tFieldDef_inj : ∀ {a b : DFieldDef}, tFieldDef a = tFieldDef b → a = b := by
  intro a b h
  obtain ⟨x0, x1, x2, ⟨x3_0, x3_1⟩, x4⟩ := a
  obtain ⟨y0, y1, y2, ⟨y3_0, y3_1⟩, y4⟩ := b
  simp only [tFieldDef, tType, List.append_assoc, List.cons_append, List.nil_append, List.cons.injEq, Tr.int.injEq, Tr.str.injEq, Tr.bool.injEq, Tr.sl.injEq, true_and, and_true] at h
  obtain ⟨h0, h1, h2, h3, h4, h5⟩ := h
  have h2 := tInDefS_inj h2
  have h5 := tDirS_inj h5
  subst_vars; rfl
theorem tFieldDefS_inj : ∀ {a b : List DFieldDef}, tFieldDefS a = tFieldDefS b → a = b := by
  intro a; induction a with
  | nil => intro b h; cases b with
    | nil => rfl
    | cons _ _ => simp [tFieldDefS] at h
  | cons x a ih => intro b h; cases b with
    | nil => simp [tFieldDefS] at h
    | cons y b => simp only [tFieldDefS, List.cons.injEq] at h; rw [tFieldDef_inj h.1, ih h.2]
structure DEnumDef where
  name : Bs
  desc : Bs
  dirs : List DDir
def tEnumDef : DEnumDef → List Tr
  | ⟨x0, x1, x2⟩ => [.str x0, .str x1, .sl 219 (tDirS x2)]
def tEnumDefS : List DEnumDef → List (List Tr)
  | [] => []
  | x :: xs => tEnumDef x :: tEnumDefS xs
theorem tEnumDef_len (x : DEnumDef) : (tEnumDef x).length = 3 := by obtain ⟨x0, x1, x2⟩ := x; simp [tEnumDef]
theorem tEnumDefS_map : ∀ {xs : List DEnumDef}, tEnumDefS xs = xs.map tEnumDef := by
  intro xs; induction xs with
  | nil => simp [tEnumDefS]
  | cons x xs ih => simp [tEnumDefS, ih]
@[simp] theorem tEnumDefS_len {xs : List DEnumDef} : (tEnumDefS xs).length = xs.length := by rw [tEnumDefS_map]; simp
theorem tEnumDefS_rows {xs : List DEnumDef} : ∀ r ∈ tEnumDefS xs, r.length = 3 := by
  intro r hr; rw [tEnumDefS_map] at hr; obtain ⟨x, _, rfl⟩ := List.mem_map.1 hr; exact tEnumDef_len x
theorem tEnumDefS_get {xs : List DEnumDef} {i : Nat} {x : DEnumDef} (h : xs[i]? = some x) : (tEnumDefS xs)[i]? = some (tEnumDef x) := by rw [tEnumDefS_map]; simp [h]
theorem tEnumDefS_app {a b : List DEnumDef} : tEnumDefS (a ++ b) = tEnumDefS a ++ tEnumDefS b := by rw [tEnumDefS_map, tEnumDefS_map, tEnumDefS_map]; simp
theorem tEnumDefS_take {a : List DEnumDef} {i : Nat} : (tEnumDefS a).take i = tEnumDefS (a.take i) := by rw [tEnumDefS_map, tEnumDefS_map]; simp
theorem tEnumDefS_drop {a : List DEnumDef} {i : Nat} : (tEnumDefS a).drop i = tEnumDefS (a.drop i) := by rw [tEnumDefS_map, tEnumDefS_map]; simp
theorem encEnumDefS_len {m : Md} {xs : List DEnumDef} : (encR m (tEnumDefS xs)).length = xs.length * 3 := by rw [encR_len tEnumDefS_rows, tEnumDefS_len]
theorem atEnumDef {m : Md} {xs : List DEnumDef} {i : Nat} {x : DEnumDef} (h : xs[i]? = some x) : ((encR m (tEnumDefS xs)).drop (i * 3)).take 3 = encL m (tEnumDef x) := row_at tEnumDefS_rows (tEnumDefS_get h)
theorem tEnumDef_inj : ∀ {a b : DEnumDef}, tEnumDef a = tEnumDef b → a = b := by
  intro a b h
  obtain ⟨x0, x1, x2⟩ := a
  obtain ⟨y0, y1, y2⟩ := b
  simp only [tEnumDef, List.append_assoc, List.cons_append, List.nil_append, List.cons.injEq, Tr.int.injEq, Tr.str.injEq, Tr.bool.injEq, Tr.sl.injEq, true_and, and_true] at h
  obtain ⟨h0, h1, h2⟩ := h
  have h2 := tDirS_inj h2
  subst_vars; rfl
theorem tEnumDefS_inj : ∀ {a b : List DEnumDef}, tEnumDefS a = tEnumDefS b → a = b := by
  intro a; induction a with
  | nil => intro b h; cases b with
    | nil => rfl
    | cons _ _ => simp [tEnumDefS] at h
  | cons x a ih => intro b h; cases b with
    | nil => simp [tEnumDefS] at h
    | cons y b => simp only [tEnumDefS, List.cons.injEq] at h; rw [tEnumDef_inj h.1, ih h.2]
structure DRoot where
  kind : Int
  ty : Bs
def tRoot : DRoot → List Tr
  | ⟨x0, x1⟩ => [.int .i64 x0, .str x1]
def tRootS : List DRoot → List (List Tr)
  | [] => []
  | x :: xs => tRoot x :: tRootS xs
theorem tRoot_len (x : DRoot) : (tRoot x).length = 2 := by obtain ⟨x0, x1⟩ := x; simp [tRoot]
theorem tRootS_map : ∀ {xs : List DRoot}, tRootS xs = xs.map tRoot := by
  intro xs; induction xs with
  | nil => simp [tRootS]
  | cons x xs ih => simp [tRootS, ih]
@[simp] theorem tRootS_len {xs : List DRoot} : (tRootS xs).length = xs.length := by rw [tRootS_map]; simp
theorem tRootS_rows {xs : List DRoot} : ∀ r ∈ tRootS xs, r.length = 2 := by
  intro r hr; rw [tRootS_map] at hr; obtain ⟨x, _, rfl⟩ := List.mem_map.1 hr; exact tRoot_len x
theorem tRootS_get {xs : List DRoot} {i : Nat} {x : DRoot} (h : xs[i]? = some x) : (tRootS xs)[i]? = some (tRoot x) := by rw [tRootS_map]; simp [h]
theorem tRootS_app {a b : List DRoot} : tRootS (a ++ b) = tRootS a ++ tRootS b := by rw [tRootS_map, tRootS_map, tRootS_map]; simp
theorem tRootS_take {a : List DRoot} {i : Nat} : (tRootS a).take i = tRootS (a.take i) := by rw [tRootS_map, tRootS_map]; simp
theorem tRootS_drop {a : List DRoot} {i : Nat} : (tRootS a).drop i = tRootS (a.drop i) := by rw [tRootS_map, tRootS_map]; simp
theorem encRootS_len {m : Md} {xs : List DRoot} : (encR m (tRootS xs)).length = xs.length * 2 := by rw [encR_len tRootS_rows, tRootS_len]
theorem atRoot {m : Md} {xs : List DRoot} {i : Nat} {x : DRoot} (h : xs[i]? = some x) : ((encR m (tRootS xs)).drop (i * 2)).take 2 = encL m (tRoot x) := row_at tRootS_rows (tRootS_get h)
theorem tRoot_inj : ∀ {a b : DRoot}, tRoot a = tRoot b → a = b := by
  intro a b h
  obtain ⟨x0, x1⟩ := a
  obtain ⟨y0, y1⟩ := b
  simp only [tRoot, List.append_assoc, List.cons_append, List.nil_append, List.cons.injEq, Tr.int.injEq, Tr.str.injEq, Tr.bool.injEq, Tr.sl.injEq, true_and, and_true] at h
  obtain ⟨h0, h1⟩ := h
  subst_vars; rfl
theorem tRootS_inj : ∀ {a b : List DRoot}, tRootS a = tRootS b → a = b := by
  intro a; induction a with
  | nil => intro b h; cases b with
    | nil => rfl
    | cons _ _ => simp [tRootS] at h
  | cons x a ih => intro b h; cases b with
    | nil => simp [tRootS] at h
    | cons y b => simp only [tRootS, List.cons.injEq] at h; rw [tRoot_inj h.1, ih h.2]
structure DDef where
  kind : Int
  ext : Bool
  desc : Bs
  name : Bs
  faces : List Bs
  fields : List DFieldDef
  inputs : List DInDef
  values : List DEnumDef
  roots : List DRoot
  rep : Bool
  dirs : List DDir
def tDef : DDef → List Tr
  | ⟨x0, x1, x2, x3, x4, x5, x6, x7, x8, x9, x10⟩ => [.int .i64 x0, .bool x1, .str x2, .str x3, .sl 9 (tStrS x4), .sl 166 (tFieldDefS x5), .sl 77 (tInDefS x6), .sl 172 (tEnumDefS x7), .sl 202 (tRootS x8), .bool x9, .sl 219 (tDirS x10)]
def tDefS : List DDef → List (List Tr)
  | [] => []
  | x :: xs => tDef x :: tDefS xs
theorem tDef_len (x : DDef) : (tDef x).length = 11 := by obtain ⟨x0, x1, x2, x3, x4, x5, x6, x7, x8, x9, x10⟩ := x; simp [tDef]
theorem tDefS_map : ∀ {xs : List DDef}, tDefS xs = xs.map tDef := by
  intro xs; induction xs with
  | nil => simp [tDefS]
  | cons x xs ih => simp [tDefS, ih]
@[simp] theorem tDefS_len {xs : List DDef} : (tDefS xs).length = xs.length := by rw [tDefS_map]; simp
theorem tDefS_rows {xs : List DDef} : ∀ r ∈ tDefS xs, r.length = 11 := by
  intro r hr; rw [tDefS_map] at hr; obtain ⟨x, _, rfl⟩ := List.mem_map.1 hr; exact tDef_len x
theorem tDefS_get {xs : List DDef} {i : Nat} {x : DDef} (h : xs[i]? = some x) : (tDefS xs)[i]? = some (tDef x) := by rw [tDefS_map]; simp [h]
theorem tDefS_app {a b : List DDef} : tDefS (a ++ b) = tDefS a ++ tDefS b := by rw [tDefS_map, tDefS_map, tDefS_map]; simp
theorem tDefS_take {a : List DDef} {i : Nat} : (tDefS a).take i = tDefS (a.take i) := by rw [tDefS_map, tDefS_map]; simp
theorem tDefS_drop {a : List DDef} {i : Nat} : (tDefS a).drop i = tDefS (a.drop i) := by rw [tDefS_map, tDefS_map]; simp
theorem encDefS_len {m : Md} {xs : List DDef} : (encR m (tDefS xs)).length = xs.length * 11 := by rw [encR_len tDefS_rows, tDefS_len]
theorem atDef {m : Md} {xs : List DDef} {i : Nat} {x : DDef} (h : xs[i]? = some x) : ((encR m (tDefS xs)).drop (i * 11)).take 11 = encL m (tDef x) := row_at tDefS_rows (tDefS_get h)
theorem tDef_inj : ∀ {a b : DDef}, tDef a = tDef b → a = b := by
  intro a b h
  obtain ⟨x0, x1, x2, x3, x4, x5, x6, x7, x8, x9, x10⟩ := a
  obtain ⟨y0, y1, y2, y3, y4, y5, y6, y7, y8, y9, y10⟩ := b
  simp only [tDef, List.append_assoc, List.cons_append, List.nil_append, List.cons.injEq, Tr.int.injEq, Tr.str.injEq, Tr.bool.injEq, Tr.sl.injEq, true_and, and_true] at h
  obtain ⟨h0, h1, h2, h3, h4, h5, h6, h7, h8, h9, h10⟩ := h
  have h4 := tStrS_inj h4
  have h5 := tFieldDefS_inj h5
  have h6 := tInDefS_inj h6
  have h7 := tEnumDefS_inj h7
  have h8 := tRootS_inj h8
  have h10 := tDirS_inj h10
  subst_vars; rfl
theorem tDefS_inj : ∀ {a b : List DDef}, tDefS a = tDefS b → a = b := by
  intro a; induction a with
  | nil => intro b h; cases b with
    | nil => rfl
    | cons _ _ => simp [tDefS] at h
  | cons x a ih => intro b h; cases b with
    | nil => simp [tDefS] at h
    | cons y b => simp only [tDefS, List.cons.injEq] at h; rw [tDef_inj h.1, ih h.2]
structure DSchema where
  types : List DDef
  dirs : List DDef
  roots : List DRoot
def tSchema : DSchema → List Tr
  | ⟨x0, x1, x2⟩ => [.sl 95 (tDefS x0), .sl 95 (tDefS x1), .sl 202 (tRootS x2)]
def tSchemaS : List DSchema → List (List Tr)
  | [] => []
  | x :: xs => tSchema x :: tSchemaS xs
theorem tSchema_len (x : DSchema) : (tSchema x).length = 3 := by obtain ⟨x0, x1, x2⟩ := x; simp [tSchema]
theorem tSchemaS_map : ∀ {xs : List DSchema}, tSchemaS xs = xs.map tSchema := by
  intro xs; induction xs with
  | nil => simp [tSchemaS]
  | cons x xs ih => simp [tSchemaS, ih]
@[simp] theorem tSchemaS_len {xs : List DSchema} : (tSchemaS xs).length = xs.length := by rw [tSchemaS_map]; simp
theorem tSchemaS_rows {xs : List DSchema} : ∀ r ∈ tSchemaS xs, r.length = 3 := by
  intro r hr; rw [tSchemaS_map] at hr; obtain ⟨x, _, rfl⟩ := List.mem_map.1 hr; exact tSchema_len x
theorem tSchemaS_get {xs : List DSchema} {i : Nat} {x : DSchema} (h : xs[i]? = some x) : (tSchemaS xs)[i]? = some (tSchema x) := by rw [tSchemaS_map]; simp [h]
theorem tSchemaS_app {a b : List DSchema} : tSchemaS (a ++ b) = tSchemaS a ++ tSchemaS b := by rw [tSchemaS_map, tSchemaS_map, tSchemaS_map]; simp
theorem tSchemaS_take {a : List DSchema} {i : Nat} : (tSchemaS a).take i = tSchemaS (a.take i) := by rw [tSchemaS_map, tSchemaS_map]; simp
theorem tSchemaS_drop {a : List DSchema} {i : Nat} : (tSchemaS a).drop i = tSchemaS (a.drop i) := by rw [tSchemaS_map, tSchemaS_map]; simp
theorem encSchemaS_len {m : Md} {xs : List DSchema} : (encR m (tSchemaS xs)).length = xs.length * 3 := by rw [encR_len tSchemaS_rows, tSchemaS_len]
theorem atSchema {m : Md} {xs : List DSchema} {i : Nat} {x : DSchema} (h : xs[i]? = some x) : ((encR m (tSchemaS xs)).drop (i * 3)).take 3 = encL m (tSchema x) := row_at tSchemaS_rows (tSchemaS_get h)
theorem tSchema_inj : ∀ {a b : DSchema}, tSchema a = tSchema b → a = b := by
  intro a b h
  obtain ⟨x0, x1, x2⟩ := a
  obtain ⟨y0, y1, y2⟩ := b
  simp only [tSchema, List.append_assoc, List.cons_append, List.nil_append, List.cons.injEq, Tr.int.injEq, Tr.str.injEq, Tr.bool.injEq, Tr.sl.injEq, true_and, and_true] at h
  obtain ⟨h0, h1, h2⟩ := h
  have h0 := tDefS_inj h0
  have h1 := tDefS_inj h1
  have h2 := tRootS_inj h2
  subst_vars; rfl
theorem tSchemaS_inj : ∀ {a b : List DSchema}, tSchemaS a = tSchemaS b → a = b := by
  intro a; induction a with
  | nil => intro b h; cases b with
    | nil => rfl
    | cons _ _ => simp [tSchemaS] at h
  | cons x a ih => intro b h; cases b with
    | nil => simp [tSchemaS] at h
    | cons y b => simp only [tSchemaS, List.cons.injEq] at h; rw [tSchema_inj h.1, ih h.2]
structure DJson where
  kind : Int
  text : Bs
  items : List DJson
  names : List Bs
mutual
def tJson : DJson → List Tr
  | ⟨x0, x1, x2, x3⟩ => [.int .i64 x0, .str x1, .sl 54 (tJsonS x2), .sl 9 (tStrS x3)]
def tJsonS : List DJson → List (List Tr)
  | [] => []
  | x :: xs => tJson x :: tJsonS xs
end
theorem tJson_len (x : DJson) : (tJson x).length = 4 := by obtain ⟨x0, x1, x2, x3⟩ := x; simp [tJson]
theorem tJsonS_map : ∀ {xs : List DJson}, tJsonS xs = xs.map tJson := by
  intro xs; induction xs with
  | nil => simp [tJsonS]
  | cons x xs ih => simp [tJsonS, ih]
@[simp] theorem tJsonS_len {xs : List DJson} : (tJsonS xs).length = xs.length := by rw [tJsonS_map]; simp
theorem tJsonS_rows {xs : List DJson} : ∀ r ∈ tJsonS xs, r.length = 4 := by
  intro r hr; rw [tJsonS_map] at hr; obtain ⟨x, _, rfl⟩ := List.mem_map.1 hr; exact tJson_len x
theorem tJsonS_get {xs : List DJson} {i : Nat} {x : DJson} (h : xs[i]? = some x) : (tJsonS xs)[i]? = some (tJson x) := by rw [tJsonS_map]; simp [h]
theorem tJsonS_app {a b : List DJson} : tJsonS (a ++ b) = tJsonS a ++ tJsonS b := by rw [tJsonS_map, tJsonS_map, tJsonS_map]; simp
theorem tJsonS_take {a : List DJson} {i : Nat} : (tJsonS a).take i = tJsonS (a.take i) := by rw [tJsonS_map, tJsonS_map]; simp
theorem tJsonS_drop {a : List DJson} {i : Nat} : (tJsonS a).drop i = tJsonS (a.drop i) := by rw [tJsonS_map, tJsonS_map]; simp
theorem encJsonS_len {m : Md} {xs : List DJson} : (encR m (tJsonS xs)).length = xs.length * 4 := by rw [encR_len tJsonS_rows, tJsonS_len]
theorem atJson {m : Md} {xs : List DJson} {i : Nat} {x : DJson} (h : xs[i]? = some x) : ((encR m (tJsonS xs)).drop (i * 4)).take 4 = encL m (tJson x) := row_at tJsonS_rows (tJsonS_get h)
mutual
theorem tJson_inj : ∀ {a b : DJson}, tJson a = tJson b → a = b
  | ⟨x0, x1, x2, x3⟩, ⟨y0, y1, y2, y3⟩, h => by
    simp only [tJson, List.append_assoc, List.cons_append, List.nil_append, List.cons.injEq, Tr.int.injEq, Tr.str.injEq, Tr.bool.injEq, Tr.sl.injEq, true_and, and_true] at h
    obtain ⟨h0, h1, h2, h3⟩ := h
    have h2 := tJsonS_inj h2
    have h3 := tStrS_inj h3
    subst_vars; rfl
theorem tJsonS_inj : ∀ {a b : List DJson}, tJsonS a = tJsonS b → a = b
  | [], [], _ => rfl
  | [], _ :: _, h => by simp [tJsonS] at h
  | _ :: _, [], h => by simp [tJsonS] at h
  | x :: xs, y :: ys, h => by
    simp only [tJsonS, List.cons.injEq] at h
    rw [tJson_inj h.1, tJsonS_inj h.2]
end
structure DFault where
  code : Int
  at_ : Int
def tFault : DFault → List Tr
  | ⟨x0, x1⟩ => [.int .i64 x0, .int .i64 x1]
def tFaultS : List DFault → List (List Tr)
  | [] => []
  | x :: xs => tFault x :: tFaultS xs
theorem tFault_len (x : DFault) : (tFault x).length = 2 := by obtain ⟨x0, x1⟩ := x; simp [tFault]
theorem tFaultS_map : ∀ {xs : List DFault}, tFaultS xs = xs.map tFault := by
  intro xs; induction xs with
  | nil => simp [tFaultS]
  | cons x xs ih => simp [tFaultS, ih]
@[simp] theorem tFaultS_len {xs : List DFault} : (tFaultS xs).length = xs.length := by rw [tFaultS_map]; simp
theorem tFaultS_rows {xs : List DFault} : ∀ r ∈ tFaultS xs, r.length = 2 := by
  intro r hr; rw [tFaultS_map] at hr; obtain ⟨x, _, rfl⟩ := List.mem_map.1 hr; exact tFault_len x
theorem tFaultS_get {xs : List DFault} {i : Nat} {x : DFault} (h : xs[i]? = some x) : (tFaultS xs)[i]? = some (tFault x) := by rw [tFaultS_map]; simp [h]
theorem tFaultS_app {a b : List DFault} : tFaultS (a ++ b) = tFaultS a ++ tFaultS b := by rw [tFaultS_map, tFaultS_map, tFaultS_map]; simp
theorem tFaultS_take {a : List DFault} {i : Nat} : (tFaultS a).take i = tFaultS (a.take i) := by rw [tFaultS_map, tFaultS_map]; simp
theorem tFaultS_drop {a : List DFault} {i : Nat} : (tFaultS a).drop i = tFaultS (a.drop i) := by rw [tFaultS_map, tFaultS_map]; simp
theorem encFaultS_len {m : Md} {xs : List DFault} : (encR m (tFaultS xs)).length = xs.length * 2 := by rw [encR_len tFaultS_rows, tFaultS_len]
theorem atFault {m : Md} {xs : List DFault} {i : Nat} {x : DFault} (h : xs[i]? = some x) : ((encR m (tFaultS xs)).drop (i * 2)).take 2 = encL m (tFault x) := row_at tFaultS_rows (tFaultS_get h)
theorem tFault_inj : ∀ {a b : DFault}, tFault a = tFault b → a = b := by
  intro a b h
  obtain ⟨x0, x1⟩ := a
  obtain ⟨y0, y1⟩ := b
  simp only [tFault, List.append_assoc, List.cons_append, List.nil_append, List.cons.injEq, Tr.int.injEq, Tr.str.injEq, Tr.bool.injEq, Tr.sl.injEq, true_and, and_true] at h
  obtain ⟨h0, h1⟩ := h
  subst_vars; rfl
theorem tFaultS_inj : ∀ {a b : List DFault}, tFaultS a = tFaultS b → a = b := by
  intro a; induction a with
  | nil => intro b h; cases b with
    | nil => rfl
    | cons _ _ => simp [tFaultS] at h
  | cons x a ih => intro b h; cases b with
    | nil => simp [tFaultS] at h
    | cons y b => simp only [tFaultS, List.cons.injEq] at h; rw [tFault_inj h.1, ih h.2]
end Go.Proofs.YtkefgpmnimpcdaaGreatDoor.Abs
