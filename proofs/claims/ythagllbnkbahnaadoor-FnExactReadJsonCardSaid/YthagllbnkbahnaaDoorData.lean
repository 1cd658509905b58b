/- PRINTED by data.py: the types of the data, and how they lie in cells. No condition. -/
import Derived.Test.YthagllbnkbahnaaDoorTr
set_option linter.unusedVariables false
set_option linter.unusedSimpArgs false
namespace Go.Proofs.YthagllbnkbahnaaDoor.Abs
open Go
def tStrS : List Bs → List (List Tr)
  | [] => []
  | x :: xs => [.str x] :: tStrS xs
def tIntS : List Int → List (List Tr)
  | [] => []
  | x :: xs => [.int .i64 x] :: tIntS xs
theorem tStrS_map : ∀ {xs : List Bs}, tStrS xs = xs.map (fun s => [Tr.str s]) := by
  intro xs; induction xs with
  | nil => simp [tStrS]
  | cons x xs ih => simp [tStrS, ih]
@[simp] theorem tStrS_len {xs : List Bs} : (tStrS xs).length = xs.length := by rw [tStrS_map]; simp
theorem tStrS_rows {xs : List Bs} : ∀ r ∈ tStrS xs, r.length = 1 := by
  intro r hr; rw [tStrS_map] at hr; obtain ⟨x, _, rfl⟩ := List.mem_map.1 hr; rfl
theorem tStrS_get {xs : List Bs} {i : Nat} {x : Bs} (h : xs[i]? = some x) : (tStrS xs)[i]? = some ((fun s => [Tr.str s]) x) := by rw [tStrS_map]; simp [h]
theorem tStrS_app {a b : List Bs} : tStrS (a ++ b) = tStrS a ++ tStrS b := by rw [tStrS_map, tStrS_map, tStrS_map]; simp
theorem tStrS_take {a : List Bs} {i : Nat} : (tStrS a).take i = tStrS (a.take i) := by rw [tStrS_map, tStrS_map]; simp
theorem tStrS_drop {a : List Bs} {i : Nat} : (tStrS a).drop i = tStrS (a.drop i) := by rw [tStrS_map, tStrS_map]; simp
theorem encStrS_len {m : Md} {xs : List Bs} : (encR m (tStrS xs)).length = xs.length * 1 := by rw [encR_len tStrS_rows, tStrS_len]
theorem atStr {m : Md} {xs : List Bs} {i : Nat} {x : Bs} (h : xs[i]? = some x) : ((encR m (tStrS xs)).drop (i * 1)).take 1 = encL m ((fun s => [Tr.str s]) x) := row_at tStrS_rows (tStrS_get h)
theorem tIntS_map : ∀ {xs : List Int}, tIntS xs = xs.map (fun s => [Tr.int .i64 s]) := by
  intro xs; induction xs with
  | nil => simp [tIntS]
  | cons x xs ih => simp [tIntS, ih]
@[simp] theorem tIntS_len {xs : List Int} : (tIntS xs).length = xs.length := by rw [tIntS_map]; simp
theorem tIntS_rows {xs : List Int} : ∀ r ∈ tIntS xs, r.length = 1 := by
  intro r hr; rw [tIntS_map] at hr; obtain ⟨x, _, rfl⟩ := List.mem_map.1 hr; rfl
theorem tIntS_get {xs : List Int} {i : Nat} {x : Int} (h : xs[i]? = some x) : (tIntS xs)[i]? = some ((fun s => [Tr.int .i64 s]) x) := by rw [tIntS_map]; simp [h]
theorem tIntS_app {a b : List Int} : tIntS (a ++ b) = tIntS a ++ tIntS b := by rw [tIntS_map, tIntS_map, tIntS_map]; simp
theorem tIntS_take {a : List Int} {i : Nat} : (tIntS a).take i = tIntS (a.take i) := by rw [tIntS_map, tIntS_map]; simp
theorem tIntS_drop {a : List Int} {i : Nat} : (tIntS a).drop i = tIntS (a.drop i) := by rw [tIntS_map, tIntS_map]; simp
theorem encIntS_len {m : Md} {xs : List Int} : (encR m (tIntS xs)).length = xs.length * 1 := by rw [encR_len tIntS_rows, tIntS_len]
theorem atInt {m : Md} {xs : List Int} {i : Nat} {x : Int} (h : xs[i]? = some x) : ((encR m (tIntS xs)).drop (i * 1)).take 1 = encL m ((fun s => [Tr.int .i64 s]) x) := row_at tIntS_rows (tIntS_get h)
theorem tStrS_inj : ∀ {a b : List Bs}, tStrS a = tStrS b → a = b := by
  intro a; induction a with
  | nil => intro b h; cases b with
    | nil => rfl
    | cons _ _ => simp [tStrS] at h
  | cons x a ih => intro b h; cases b with
    | nil => simp [tStrS] at h
    | cons y b => simp only [tStrS, List.cons.injEq, Tr.str.injEq, and_true] at h; rw [h.1, ih h.2]
theorem tIntS_inj : ∀ {a b : List Int}, tIntS a = tIntS b → a = b := by
  intro a; induction a with
  | nil => intro b h; cases b with
    | nil => rfl
    | cons _ _ => simp [tIntS] at h
  | cons x a ih => intro b h; cases b with
    | nil => simp [tIntS] at h
    | cons y b => simp only [tIntS, List.cons.injEq, Tr.int.injEq, true_and, and_true] at h; rw [h.1, ih h.2]
structure DJson where
  kind : Int
  text : Bs
  items : List DJson
  names : List Bs
mutual
def tJson : DJson → List Tr
  | ⟨x0, x1, x2, x3⟩ => [.int .i64 x0, .str x1, .sl 25 (tJsonS x2), .sl 9 (tStrS x3)]
def tJsonS : List DJson → List (List Tr)
  | [] => []
  | x :: xs => tJson x :: tJsonS xs
end
theorem tJson_len (x : DJson) : (tJson x).length = 4 := by obtain ⟨x0, x1, x2, x3⟩ := x; simp [tJson]
theorem tJsonS_map : ∀ {xs : List DJson}, tJsonS xs = xs.map tJson := by
  intro xs; induction xs with
  | nil => simp [tJsonS]
  | cons x xs ih => simp [tJsonS, ih]
@[simp] theorem tJsonS_len {xs : List DJson} : (tJsonS xs).length = xs.length := by rw [tJsonS_map]; simp
theorem tJsonS_rows {xs : List DJson} : ∀ r ∈ tJsonS xs, r.length = 4 := by
  intro r hr; rw [tJsonS_map] at hr; obtain ⟨x, _, rfl⟩ := List.mem_map.1 hr; exact tJson_len x
theorem tJsonS_get {xs : List DJson} {i : Nat} {x : DJson} (h : xs[i]? = some x) : (tJsonS xs)[i]? = some (tJson x) := by rw [tJsonS_map]; simp [h]
theorem tJsonS_app {a b : List DJson} : tJsonS (a ++ b) = tJsonS a ++ tJsonS b := by rw [tJsonS_map, tJsonS_map, tJsonS_map]; simp
theorem tJsonS_take {a : List DJson} {i : Nat} : (tJsonS a).take i = tJsonS (a.take i) := by rw [tJsonS_map, tJsonS_map]; simp
theorem tJsonS_drop {a : List DJson} {i : Nat} : (tJsonS a).drop i = tJsonS (a.drop i) := by rw [tJsonS_map, tJsonS_map]; simp
theorem encJsonS_len {m : Md} {xs : List DJson} : (encR m (tJsonS xs)).length = xs.length * 4 := by rw [encR_len tJsonS_rows, tJsonS_len]
theorem atJson {m : Md} {xs : List DJson} {i : Nat} {x : DJson} (h : xs[i]? = some x) : ((encR m (tJsonS xs)).drop (i * 4)).take 4 = encL m (tJson x) := row_at tJsonS_rows (tJsonS_get h)
mutual
theorem tJson_inj : ∀ {a b : DJson}, tJson a = tJson b → a = b
  | ⟨x0, x1, x2, x3⟩, ⟨y0, y1, y2, y3⟩, h => by
    simp only [tJson, List.append_assoc, List.cons_append, List.nil_append, List.cons.injEq, Tr.int.injEq, Tr.str.injEq, Tr.bool.injEq, Tr.sl.injEq, true_and, and_true] at h
    obtain ⟨h0, h1, h2, h3⟩ := h
    have h2 := tJsonS_inj h2
    have h3 := tStrS_inj h3
    subst_vars; rfl
theorem tJsonS_inj : ∀ {a b : List DJson}, tJsonS a = tJsonS b → a = b
  | [], [], _ => rfl
  | [], _ :: _, h => by simp [tJsonS] at h
  | _ :: _, [], h => by simp [tJsonS] at h
  | x :: xs, y :: ys, h => by
    simp only [tJsonS, List.cons.injEq] at h
    rw [tJson_inj h.1, tJsonS_inj h.2]
end
end Go.Proofs.YthagllbnkbahnaaDoor.Abs
