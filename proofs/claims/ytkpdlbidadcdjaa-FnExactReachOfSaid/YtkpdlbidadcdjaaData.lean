/- PRINTED by data.py: the types of the data, and how they lie in cells. No condition. -/
import Derived.Test.YtkpdlbidadcdjaaTr
set_option linter.unusedVariables false
set_option linter.unusedSimpArgs false
namespace Go.Proofs.Ytkpdlbidadcdjaa.Abs
open Go
def tStrS : List Bs → List (List Tr)
  | [] => []
  | x :: xs => [.str x] :: tStrS xs
def tIntS : List Int → List (List Tr)
  | [] => []
  | x :: xs => [.int .i64 x] :: tIntS xs
theorem tStrS_map : ∀ {xs : List Bs}, tStrS xs = xs.map (fun s => [Tr.str s]) := by
  intro xs; induction xs with
  | nil => simp [tStrS]
  | cons x xs ih => simp [tStrS, ih]
@[simp] theorem tStrS_len {xs : List Bs} : (tStrS xs).length = xs.length := by rw [tStrS_map]; simp
theorem tStrS_rows {xs : List Bs} : ∀ r ∈ tStrS xs, r.length = 1 := by
  intro r hr; rw [tStrS_map] at hr; obtain ⟨x, _, rfl⟩ := List.mem_map.1 hr; rfl
theorem tStrS_get {xs : List Bs} {i : Nat} {x : Bs} (h : xs[i]? = some x) : (tStrS xs)[i]? = some ((fun s => [Tr.str s]) x) := by rw [tStrS_map]; simp [h]
theorem tStrS_app {a b : List Bs} : tStrS (a ++ b) = tStrS a ++ tStrS b := by rw [tStrS_map, tStrS_map, tStrS_map]; simp
theorem tStrS_take {a : List Bs} {i : Nat} : (tStrS a).take i = tStrS (a.take i) := by rw [tStrS_map, tStrS_map]; simp
theorem tStrS_drop {a : List Bs} {i : Nat} : (tStrS a).drop i = tStrS (a.drop i) := by rw [tStrS_map, tStrS_map]; simp
theorem encStrS_len {m : Md} {xs : List Bs} : (encR m (tStrS xs)).length = xs.length * 1 := by rw [encR_len tStrS_rows, tStrS_len]
theorem atStr {m : Md} {xs : List Bs} {i : Nat} {x : Bs} (h : xs[i]? = some x) : ((encR m (tStrS xs)).drop (i * 1)).take 1 = encL m ((fun s => [Tr.str s]) x) := row_at tStrS_rows (tStrS_get h)
theorem tIntS_map : ∀ {xs : List Int}, tIntS xs = xs.map (fun s => [Tr.int .i64 s]) := by
  intro xs; induction xs with
  | nil => simp [tIntS]
  | cons x xs ih => simp [tIntS, ih]
@[simp] theorem tIntS_len {xs : List Int} : (tIntS xs).length = xs.length := by rw [tIntS_map]; simp
theorem tIntS_rows {xs : List Int} : ∀ r ∈ tIntS xs, r.length = 1 := by
  intro r hr; rw [tIntS_map] at hr; obtain ⟨x, _, rfl⟩ := List.mem_map.1 hr; rfl
theorem tIntS_get {xs : List Int} {i : Nat} {x : Int} (h : xs[i]? = some x) : (tIntS xs)[i]? = some ((fun s => [Tr.int .i64 s]) x) := by rw [tIntS_map]; simp [h]
theorem tIntS_app {a b : List Int} : tIntS (a ++ b) = tIntS a ++ tIntS b := by rw [tIntS_map, tIntS_map, tIntS_map]; simp
theorem tIntS_take {a : List Int} {i : Nat} : (tIntS a).take i = tIntS (a.take i) := by rw [tIntS_map, tIntS_map]; simp
theorem tIntS_drop {a : List Int} {i : Nat} : (tIntS a).drop i = tIntS (a.drop i) := by rw [tIntS_map, tIntS_map]; simp
theorem encIntS_len {m : Md} {xs : List Int} : (encR m (tIntS xs)).length = xs.length * 1 := by rw [encR_len tIntS_rows, tIntS_len]
theorem atInt {m : Md} {xs : List Int} {i : Nat} {x : Int} (h : xs[i]? = some x) : ((encR m (tIntS xs)).drop (i * 1)).take 1 = encL m ((fun s => [Tr.int .i64 s]) x) := row_at tIntS_rows (tIntS_get h)
theorem tStrS_inj : ∀ {a b : List Bs}, tStrS a = tStrS b → a = b := by
  intro a; induction a with
  | nil => intro b h; cases b with
    | nil => rfl
    | cons _ _ => simp [tStrS] at h
  | cons x a ih => intro b h; cases b with
    | nil => simp [tStrS] at h
    | cons y b => simp only [tStrS, List.cons.injEq, Tr.str.injEq, and_true] at h; rw [h.1, ih h.2]
theorem tIntS_inj : ∀ {a b : List Int}, tIntS a = tIntS b → a = b := by
  intro a; induction a with
  | nil => intro b h; cases b with
    | nil => rfl
    | cons _ _ => simp [tIntS] at h
  | cons x a ih => intro b h; cases b with
    | nil => simp [tIntS] at h
    | cons y b => simp only [tIntS, List.cons.injEq, Tr.int.injEq, true_and, and_true] at h; rw [h.1, ih h.2]
structure DValue where
  kind : Int
  text : Bs
  items : List DValue
  names : List Bs
mutual
def tValue : DValue → List Tr
  | ⟨x0, x1, x2, x3⟩ => [.int .i64 x0, .str x1, .sl 85 (tValueS x2), .sl 9 (tStrS x3)]
def tValueS : List DValue → List (List Tr)
  | [] => []
  | x :: xs => tValue x :: tValueS xs
end
theorem tValue_len (x : DValue) : (tValue x).length = 4 := by obtain ⟨x0, x1, x2, x3⟩ := x; simp [tValue]
theorem tValueS_map : ∀ {xs : List DValue}, tValueS xs = xs.map tValue := by
  intro xs; induction xs with
  | nil => simp [tValueS]
  | cons x xs ih => simp [tValueS, ih]
@[simp] theorem tValueS_len {xs : List DValue} : (tValueS xs).length = xs.length := by rw [tValueS_map]; simp
theorem tValueS_rows {xs : List DValue} : ∀ r ∈ tValueS xs, r.length = 4 := by
  intro r hr; rw [tValueS_map] at hr; obtain ⟨x, _, rfl⟩ := List.mem_map.1 hr; exact tValue_len x
theorem tValueS_get {xs : List DValue} {i : Nat} {x : DValue} (h : xs[i]? = some x) : (tValueS xs)[i]? = some (tValue x) := by rw [tValueS_map]; simp [h]
theorem tValueS_app {a b : List DValue} : tValueS (a ++ b) = tValueS a ++ tValueS b := by rw [tValueS_map, tValueS_map, tValueS_map]; simp
theorem tValueS_take {a : List DValue} {i : Nat} : (tValueS a).take i = tValueS (a.take i) := by rw [tValueS_map, tValueS_map]; simp
theorem tValueS_drop {a : List DValue} {i : Nat} : (tValueS a).drop i = tValueS (a.drop i) := by rw [tValueS_map, tValueS_map]; simp
theorem encValueS_len {m : Md} {xs : List DValue} : (encR m (tValueS xs)).length = xs.length * 4 := by rw [encR_len tValueS_rows, tValueS_len]
theorem atValue {m : Md} {xs : List DValue} {i : Nat} {x : DValue} (h : xs[i]? = some x) : ((encR m (tValueS xs)).drop (i * 4)).take 4 = encL m (tValue x) := row_at tValueS_rows (tValueS_get h)
mutual
theorem tValue_inj : ∀ {a b : DValue}, tValue a = tValue b → a = b
  | ⟨x0, x1, x2, x3⟩, ⟨y0, y1, y2, y3⟩, h => by
    simp only [tValue, List.append_assoc, List.cons_append, List.nil_append, List.cons.injEq, Tr.int.injEq, Tr.str.injEq, Tr.bool.injEq, Tr.sl.injEq, true_and, and_true] at h
    obtain ⟨h0, h1, h2, h3⟩ := h
    have h2 := tValueS_inj h2
    have h3 := tStrS_inj h3
    subst_vars; rfl
theorem tValueS_inj : ∀ {a b : List DValue}, tValueS a = tValueS b → a = b
  | [], [], _ => rfl
  | [], _ :: _, h => by simp [tValueS] at h
  | _ :: _, [], h => by simp [tValueS] at h
  | x :: xs, y :: ys, h => by
    simp only [tValueS, List.cons.injEq] at h
    rw [tValue_inj h.1, tValueS_inj h.2]
end
structure DArg where
  name : Bs
  value : DValue
def tArg : DArg → List Tr
  | ⟨x0, x1⟩ => [.str x0] ++ tValue x1
def tArgS : List DArg → List (List Tr)
  | [] => []
  | x :: xs => tArg x :: tArgS xs
theorem tArg_len (x : DArg) : (tArg x).length = 5 := by obtain ⟨x0, x1⟩ := x; simp [tArg, tValue_len]
theorem tArgS_map : ∀ {xs : List DArg}, tArgS xs = xs.map tArg := by
  intro xs; induction xs with
  | nil => simp [tArgS]
  | cons x xs ih => simp [tArgS, ih]
@[simp] theorem tArgS_len {xs : List DArg} : (tArgS xs).length = xs.length := by rw [tArgS_map]; simp
theorem tArgS_rows {xs : List DArg} : ∀ r ∈ tArgS xs, r.length = 5 := by
  intro r hr; rw [tArgS_map] at hr; obtain ⟨x, _, rfl⟩ := List.mem_map.1 hr; exact tArg_len x
theorem tArgS_get {xs : List DArg} {i : Nat} {x : DArg} (h : xs[i]? = some x) : (tArgS xs)[i]? = some (tArg x) := by rw [tArgS_map]; simp [h]
theorem tArgS_app {a b : List DArg} : tArgS (a ++ b) = tArgS a ++ tArgS b := by rw [tArgS_map, tArgS_map, tArgS_map]; simp
theorem tArgS_take {a : List DArg} {i : Nat} : (tArgS a).take i = tArgS (a.take i) := by rw [tArgS_map, tArgS_map]; simp
theorem tArgS_drop {a : List DArg} {i : Nat} : (tArgS a).drop i = tArgS (a.drop i) := by rw [tArgS_map, tArgS_map]; simp
theorem encArgS_len {m : Md} {xs : List DArg} : (encR m (tArgS xs)).length = xs.length * 5 := by rw [encR_len tArgS_rows, tArgS_len]
theorem atArg {m : Md} {xs : List DArg} {i : Nat} {x : DArg} (h : xs[i]? = some x) : ((encR m (tArgS xs)).drop (i * 5)).take 5 = encL m (tArg x) := row_at tArgS_rows (tArgS_get h)
theorem tArg_inj : ∀ {a b : DArg}, tArg a = tArg b → a = b := by
  intro a b h
  obtain ⟨x0, ⟨x1_0, x1_1, x1_2, x1_3⟩⟩ := a
  obtain ⟨y0, ⟨y1_0, y1_1, y1_2, y1_3⟩⟩ := b
  simp only [tArg, tValue, List.append_assoc, List.cons_append, List.nil_append, List.cons.injEq, Tr.int.injEq, Tr.str.injEq, Tr.bool.injEq, Tr.sl.injEq, true_and, and_true] at h
  obtain ⟨h0, h1, h2, h3, h4⟩ := h
  have h3 := tValueS_inj h3
  have h4 := tStrS_inj h4
  subst_vars; rfl
theorem tArgS_inj : ∀ {a b : List DArg}, tArgS a = tArgS b → a = b := by
  intro a; induction a with
  | nil => intro b h; cases b with
    | nil => rfl
    | cons _ _ => simp [tArgS] at h
  | cons x a ih => intro b h; cases b with
    | nil => simp [tArgS] at h
    | cons y b => simp only [tArgS, List.cons.injEq] at h; rw [tArg_inj h.1, ih h.2]
structure DDir where
  name : Bs
  args : List DArg
def tDir : DDir → List Tr
  | ⟨x0, x1⟩ => [.str x0, .sl 87 (tArgS x1)]
def tDirS : List DDir → List (List Tr)
  | [] => []
  | x :: xs => tDir x :: tDirS xs
theorem tDir_len (x : DDir) : (tDir x).length = 2 := by obtain ⟨x0, x1⟩ := x; simp [tDir]
theorem tDirS_map : ∀ {xs : List DDir}, tDirS xs = xs.map tDir := by
  intro xs; induction xs with
  | nil => simp [tDirS]
  | cons x xs ih => simp [tDirS, ih]
@[simp] theorem tDirS_len {xs : List DDir} : (tDirS xs).length = xs.length := by rw [tDirS_map]; simp
theorem tDirS_rows {xs : List DDir} : ∀ r ∈ tDirS xs, r.length = 2 := by
  intro r hr; rw [tDirS_map] at hr; obtain ⟨x, _, rfl⟩ := List.mem_map.1 hr; exact tDir_len x
theorem tDirS_get {xs : List DDir} {i : Nat} {x : DDir} (h : xs[i]? = some x) : (tDirS xs)[i]? = some (tDir x) := by rw [tDirS_map]; simp [h]
theorem tDirS_app {a b : List DDir} : tDirS (a ++ b) = tDirS a ++ tDirS b := by rw [tDirS_map, tDirS_map, tDirS_map]; simp
theorem tDirS_take {a : List DDir} {i : Nat} : (tDirS a).take i = tDirS (a.take i) := by rw [tDirS_map, tDirS_map]; simp
theorem tDirS_drop {a : List DDir} {i : Nat} : (tDirS a).drop i = tDirS (a.drop i) := by rw [tDirS_map, tDirS_map]; simp
theorem encDirS_len {m : Md} {xs : List DDir} : (encR m (tDirS xs)).length = xs.length * 2 := by rw [encR_len tDirS_rows, tDirS_len]
theorem atDir {m : Md} {xs : List DDir} {i : Nat} {x : DDir} (h : xs[i]? = some x) : ((encR m (tDirS xs)).drop (i * 2)).take 2 = encL m (tDir x) := row_at tDirS_rows (tDirS_get h)
theorem tDir_inj : ∀ {a b : DDir}, tDir a = tDir b → a = b := by
  intro a b h
  obtain ⟨x0, x1⟩ := a
  obtain ⟨y0, y1⟩ := b
  simp only [tDir, List.append_assoc, List.cons_append, List.nil_append, List.cons.injEq, Tr.int.injEq, Tr.str.injEq, Tr.bool.injEq, Tr.sl.injEq, true_and, and_true] at h
  obtain ⟨h0, h1⟩ := h
  have h1 := tArgS_inj h1
  subst_vars; rfl
theorem tDirS_inj : ∀ {a b : List DDir}, tDirS a = tDirS b → a = b := by
  intro a; induction a with
  | nil => intro b h; cases b with
    | nil => rfl
    | cons _ _ => simp [tDirS] at h
  | cons x a ih => intro b h; cases b with
    | nil => simp [tDirS] at h
    | cons y b => simp only [tDirS, List.cons.injEq] at h; rw [tDir_inj h.1, ih h.2]
structure DSel where
  kind : Int
  alias : Bs
  name : Bs
  on_ : Bs
  args : List DArg
  dirs : List DDir
  sels : List DSel
mutual
def tSel : DSel → List Tr
  | ⟨x0, x1, x2, x3, x4, x5, x6⟩ => [.int .i64 x0, .str x1, .str x2, .str x3, .sl 87 (tArgS x4), .sl 82 (tDirS x5), .sl 57 (tSelS x6)]
def tSelS : List DSel → List (List Tr)
  | [] => []
  | x :: xs => tSel x :: tSelS xs
end
theorem tSel_len (x : DSel) : (tSel x).length = 7 := by obtain ⟨x0, x1, x2, x3, x4, x5, x6⟩ := x; simp [tSel]
theorem tSelS_map : ∀ {xs : List DSel}, tSelS xs = xs.map tSel := by
  intro xs; induction xs with
  | nil => simp [tSelS]
  | cons x xs ih => simp [tSelS, ih]
@[simp] theorem tSelS_len {xs : List DSel} : (tSelS xs).length = xs.length := by rw [tSelS_map]; simp
theorem tSelS_rows {xs : List DSel} : ∀ r ∈ tSelS xs, r.length = 7 := by
  intro r hr; rw [tSelS_map] at hr; obtain ⟨x, _, rfl⟩ := List.mem_map.1 hr; exact tSel_len x
theorem tSelS_get {xs : List DSel} {i : Nat} {x : DSel} (h : xs[i]? = some x) : (tSelS xs)[i]? = some (tSel x) := by rw [tSelS_map]; simp [h]
theorem tSelS_app {a b : List DSel} : tSelS (a ++ b) = tSelS a ++ tSelS b := by rw [tSelS_map, tSelS_map, tSelS_map]; simp
theorem tSelS_take {a : List DSel} {i : Nat} : (tSelS a).take i = tSelS (a.take i) := by rw [tSelS_map, tSelS_map]; simp
theorem tSelS_drop {a : List DSel} {i : Nat} : (tSelS a).drop i = tSelS (a.drop i) := by rw [tSelS_map, tSelS_map]; simp
theorem encSelS_len {m : Md} {xs : List DSel} : (encR m (tSelS xs)).length = xs.length * 7 := by rw [encR_len tSelS_rows, tSelS_len]
theorem atSel {m : Md} {xs : List DSel} {i : Nat} {x : DSel} (h : xs[i]? = some x) : ((encR m (tSelS xs)).drop (i * 7)).take 7 = encL m (tSel x) := row_at tSelS_rows (tSelS_get h)
mutual
theorem tSel_inj : ∀ {a b : DSel}, tSel a = tSel b → a = b
  | ⟨x0, x1, x2, x3, x4, x5, x6⟩, ⟨y0, y1, y2, y3, y4, y5, y6⟩, h => by
    simp only [tSel, List.append_assoc, List.cons_append, List.nil_append, List.cons.injEq, Tr.int.injEq, Tr.str.injEq, Tr.bool.injEq, Tr.sl.injEq, true_and, and_true] at h
    obtain ⟨h0, h1, h2, h3, h4, h5, h6⟩ := h
    have h4 := tArgS_inj h4
    have h5 := tDirS_inj h5
    have h6 := tSelS_inj h6
    subst_vars; rfl
theorem tSelS_inj : ∀ {a b : List DSel}, tSelS a = tSelS b → a = b
  | [], [], _ => rfl
  | [], _ :: _, h => by simp [tSelS] at h
  | _ :: _, [], h => by simp [tSelS] at h
  | x :: xs, y :: ys, h => by
    simp only [tSelS, List.cons.injEq] at h
    rw [tSel_inj h.1, tSelS_inj h.2]
end
structure DFrag where
  name : Bs
  on_ : Bs
  dirs : List DDir
  sels : List DSel
def tFrag : DFrag → List Tr
  | ⟨x0, x1, x2, x3⟩ => [.str x0, .str x1, .sl 82 (tDirS x2), .sl 57 (tSelS x3)]
def tFragS : List DFrag → List (List Tr)
  | [] => []
  | x :: xs => tFrag x :: tFragS xs
theorem tFrag_len (x : DFrag) : (tFrag x).length = 4 := by obtain ⟨x0, x1, x2, x3⟩ := x; simp [tFrag]
theorem tFragS_map : ∀ {xs : List DFrag}, tFragS xs = xs.map tFrag := by
  intro xs; induction xs with
  | nil => simp [tFragS]
  | cons x xs ih => simp [tFragS, ih]
@[simp] theorem tFragS_len {xs : List DFrag} : (tFragS xs).length = xs.length := by rw [tFragS_map]; simp
theorem tFragS_rows {xs : List DFrag} : ∀ r ∈ tFragS xs, r.length = 4 := by
  intro r hr; rw [tFragS_map] at hr; obtain ⟨x, _, rfl⟩ := List.mem_map.1 hr; exact tFrag_len x
theorem tFragS_get {xs : List DFrag} {i : Nat} {x : DFrag} (h : xs[i]? = some x) : (tFragS xs)[i]? = some (tFrag x) := by rw [tFragS_map]; simp [h]
theorem tFragS_app {a b : List DFrag} : tFragS (a ++ b) = tFragS a ++ tFragS b := by rw [tFragS_map, tFragS_map, tFragS_map]; simp
theorem tFragS_take {a : List DFrag} {i : Nat} : (tFragS a).take i = tFragS (a.take i) := by rw [tFragS_map, tFragS_map]; simp
theorem tFragS_drop {a : List DFrag} {i : Nat} : (tFragS a).drop i = tFragS (a.drop i) := by rw [tFragS_map, tFragS_map]; simp
theorem encFragS_len {m : Md} {xs : List DFrag} : (encR m (tFragS xs)).length = xs.length * 4 := by rw [encR_len tFragS_rows, tFragS_len]
theorem atFrag {m : Md} {xs : List DFrag} {i : Nat} {x : DFrag} (h : xs[i]? = some x) : ((encR m (tFragS xs)).drop (i * 4)).take 4 = encL m (tFrag x) := row_at tFragS_rows (tFragS_get h)
theorem tFrag_inj : ∀ {a b : DFrag}, tFrag a = tFrag b → a = b := by
  intro a b h
  obtain ⟨x0, x1, x2, x3⟩ := a
  obtain ⟨y0, y1, y2, y3⟩ := b
  simp only [tFrag, List.append_assoc, List.cons_append, List.nil_append, List.cons.injEq, Tr.int.injEq, Tr.str.injEq, Tr.bool.injEq, Tr.sl.injEq, true_and, and_true] at h
  obtain ⟨h0, h1, h2, h3⟩ := h
  have h2 := tDirS_inj h2
  have h3 := tSelS_inj h3
  subst_vars; rfl
theorem tFragS_inj : ∀ {a b : List DFrag}, tFragS a = tFragS b → a = b := by
  intro a; induction a with
  | nil => intro b h; cases b with
    | nil => rfl
    | cons _ _ => simp [tFragS] at h
  | cons x a ih => intro b h; cases b with
    | nil => simp [tFragS] at h
    | cons y b => simp only [tFragS, List.cons.injEq] at h; rw [tFrag_inj h.1, ih h.2]
end Go.Proofs.Ytkpdlbidadcdjaa.Abs
