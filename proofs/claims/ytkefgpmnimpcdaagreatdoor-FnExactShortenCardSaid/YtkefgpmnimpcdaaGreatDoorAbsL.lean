/- Abstract cells, abstract states and a weakest precondition over the code of a function: definitions. No condition. -/
import Derived.Laws.AppendOwn
import Derived.Orders
import Derived.Deep.LoopGhost
import Derived.Tactics
import Derived.Laws.Cells
import Derived.Laws.Strings
import Derived.Laws.Slices
import Derived.Extends
import Derived.Lib.DecodeN
import Derived.Lib.Space
import Derived.Laws.Cover3
import Derived.Laws.StructEq
import Derived.Laws.CopyRow
import Derived.Laws.MakeOwn
import Derived.Laws.Strings2
set_option linter.unusedVariables false
namespace Go.Proofs.YtkefgpmnimpcdaaGreatDoor.Abs
open Go

/-- Who holds a slice: 'no': others may, too; 'nil': it is nil; 'of e': nobody else, its elements are of type e (or it is nil); they stay as they are.
'ex e': nobody else, and nobody else looks at it: its elements may be written. -/
inductive Ow where
  | no | nil | of (e : TypeId) | ex (e : TypeId)

/-- An abstract value. 'sl own n cells': a slice of n elements, its cells one behind the other. 'nam x v': the value x itself, which is a v.
'ept t x off': a pointer to a cell of the slice x (slot t holds it); 'als t o x n': the slice x of n elements, which slot t (or the cell o in it) holds. -/
inductive AC where
  | bool (b : Bool)
  | int (k : IntKind) (n : Int)
  | str (s : List UInt8)
  | sl (own : Ow) (n : Nat) (cells : List AC)
  | agg (cells : List AC)
  | tup (vs : List AC)
  | ptr (u i off : Nat)
  | ref (cells : List AC)
  | fn (f : FuncId) (caps : List AC)
  | opt (g : Bool) (v : AC)
  | nam (x : Value) (v : AC)
  | ept (t : Nat) (x : Value) (off : Nat)
  | als (t : Nat) (o : Option Nat) (x : Value) (n : Option Nat)
  | undef
instance : Inhabited AC := ⟨.undef⟩

def Ow.share : Ow → Ow
  | .nil => .nil
  | _ => .no
def Ow.isEx : Ow → Bool
  | .ex _ => true
  | _ => false

mutual
def share : AC → AC
  | .sl .no n cs => .sl .no n cs
  | .sl .nil n cs => .sl .nil n cs
  | .sl (.of _) n cs => .sl .no n (shareL cs)
  | .sl (.ex _) _ _ => .undef
  | .nam _ v => share v
  | .ept t x o => .ept t x o
  | .als t o x n => .als t o x n
  | .agg cs => .agg (shareL cs)
  | .tup vs => .tup (shareL vs)
  | .opt g v => .opt g (share v)
  | .bool b => .bool b
  | .int k n => .int k n
  | .str s => .str s
  | .ptr u i o => .ptr u i o
  | .ref cs => .ref cs
  | .fn f c => .fn f c
  | .undef => .undef
def shareL : List AC → List AC
  | [] => []
  | c :: cs => share c :: shareL cs
end

mutual
/-- What may be looked at while nobody writes. -/
def lendS : AC → AC
  | .sl .nil n cs => .sl .nil n cs
  | .sl .no n cs => .sl .no n cs
  | .sl (.of _) n cs => .sl .no n (lendL cs)
  | .sl (.ex _) n cs => .sl .no n (lendL cs)
  | .agg cs => .agg (lendL cs)
  | .tup vs => .tup (lendL vs)
  | .opt g v => .opt g (lendS v)
  | .nam _ v => lendS v
  | .bool b => .bool b
  | .int k n => .int k n
  | .str s => .str s
  | .ptr u i o => .ptr u i o
  | .ref cs => .ref cs
  | .fn f c => .fn f c
  | .ept t x o => .ept t x o
  | .als t o x n => .als t o x n
  | .undef => .undef
def lendL : List AC → List AC
  | [] => []
  | c :: cs => lendS c :: lendL cs
end

mutual
/-- Does it hold all that it reaches alone? -/
def closed : AC → Bool
  | .bool _ => true
  | .int _ _ => true
  | .str _ => true
  | .sl .nil _ _ => true
  | .sl (.of _) _ cs => closedL cs
  | .sl (.ex _) _ cs => closedL cs
  | .agg cs => closedL cs
  | .tup vs => closedL vs
  | _ => false
def closedL : List AC → Bool
  | [] => true
  | c :: cs => closed c && closedL cs
end

mutual
/-- The same, with the right to write. -/
def toEx : AC → AC
  | .sl (.of e) n cs => .sl (.ex e) n (toExL cs)
  | .sl (.ex e) n cs => .sl (.ex e) n (toExL cs)
  | .agg cs => .agg (toExL cs)
  | .tup vs => .tup (toExL vs)
  | v => v
def toExL : List AC → List AC
  | [] => []
  | c :: cs => toEx c :: toExL cs
end

mutual
/-- No names. -/
def unx : AC → AC
  | .sl (.ex e) n cs => .sl (.ex e) n (unxL cs)
  | .agg cs => .agg (unxL cs)
  | .tup vs => .tup (unxL vs)
  | .nam _ v => unx v
  | v => v
def unxL : List AC → List AC
  | [] => []
  | c :: cs => unx c :: unxL cs
end

/-- A map of pointers, on cells and on values. -/
def mapC (f : AC → AC) : AC → AC
  | .ptr u i o => f (.ptr u i o)
  | .fn g caps => .fn g (caps.map f)
  | .agg _ => .undef
  | .tup _ => .undef
  | .opt _ _ => .undef
  | .nam x (.sl o n cs) => .nam x (.sl o n cs)
  | .nam _ _ => .undef
  | v => v
def mapV (f : AC → AC) : AC → AC
  | .agg cs => .agg (cs.map (mapC f))
  | .nam x (.agg cs) => .nam x (.agg (cs.map (mapC f)))
  | v => mapC f v

/-- A pointer seen from n frames further in. -/
def liftP (n : Nat) : AC → AC
  | .ptr u i o => .ptr (u + n) i o
  | v => v

/-- A pointer seen from n frames further out: none where it points into one of the n. -/
def lowP (n : Nat) : AC → Option AC
  | .ptr u i o => if n ≤ u then some (.ptr (u - n) i o) else none
  | v => some v
def lowC (n : Nat) : AC → Option AC
  | .ptr u i o => if n ≤ u then some (.ptr (u - n) i o) else none
  | .fn f caps => (caps.mapM (lowP n)).map (.fn f)
  | .agg _ => none
  | .tup _ => none
  | .opt _ _ => none
  | .nam _ (.sl o n cs) => some (.sl o n cs)
  | .nam _ _ => none
  | v => some v

/-- What a type is to the abstract machine. -/
inductive TD where
  | bool | int (k : IntKind) | str | slice (e : TypeId) | struct (fs : List (Nat × Nat × TypeId)) | ptr | bad

def tdOf (P : Program) (t : TypeId) : TD :=
  match P.underlying t with
  | some .bool => .bool
  | some (.int k) => .int k
  | some .string => .str
  | some (.slice e) => .slice e
  | some (.struct fs) => .struct (fs.toList.map fun f => (f.offset, P.cellsOf f.type, f.type))
  | some (.pointer _) => .ptr
  | some (.func ..) => .ptr
  | _ => .bad

/-- A constant's abstract value. -/
def ofV : Value → AC
  | .bool b => .bool b
  | .int k n => .int k n
  | .string s => if s.data.toList.length < 1000000 then .str s.data.toList else .undef
  | .slice none 0 0 => .sl .nil 0 []
  | _ => .undef

/-- What may lie in a slice's cell. -/
def flat : AC → Bool
  | .bool _ => true
  | .int _ _ => true
  | .str _ => true
  | .sl _ _ _ => true
  | .undef => true
  | _ => false

structure St where
  env : List (Nat × AC)
  loc : List (Nat × AC)
  K : List (List (List AC))

/-- What the proof says of a function's slots: which live on from region to region; which take over what they copy. -/
structure FI where
  n0 : Nat
  ex : List Nat
  tk : List Nat
  /-- New slices in these slots may be written. -/
  kp : List Nat := []
  /-- Elements are written and read where a slot alone holds them. -/
  es : Bool := false
  /-- The calls of these regions look at what slots alone hold, and keep nothing of it. -/
  xr : List Nat := []
  /-- These functions write what their first argument alone holds. -/
  bw : List FuncId := []
  /-- The calls in these slots yield, whatever the boxes are, what qr tells: where orders are drawn. -/
  qs : List Nat := []
  qr : List (Nat × AC) := []
  /-- Ahead of these regions what the function's own boxes hold is theirs alone: all else that needs a promise is let go. -/
  th : List Nat := []
  /-- Behind these regions box i of the function gets back what slot d holds of it: (region, d, i). -/
  gb : List (Nat × Nat × Nat) := []

def look (k : Nat) : List (Nat × AC) → Option AC
  | [] => none
  | (k', v) :: r => if k = k' then some v else look k r

def setE (k : Nat) (v : AC) : List (Nat × AC) → List (Nat × AC)
  | [] => [(k, v)]
  | (k', v') :: r => if k = k' then (k, v) :: r else (k', v') :: setE k v r

def FI.isVar (fi : FI) (k : Nat) : Bool := if k < fi.n0 then true else fi.ex.elem k

def St.get (st : St) (k : Nat) : AC :=
  match look k st.loc with
  | some v => v
  | none => (look k st.env).getD .undef

def St.put (fi : FI) (st : St) (dst : Option Nat) (v : AC) : St :=
  match dst with
  | none => st
  | some k => if fi.isVar k then { st with env := setE k v st.env } else { st with loc := setE k v st.loc }

/-- The slot keeps only a share of what it holds. -/
def St.weak (st : St) (k : Nat) : St :=
  match look k st.loc with
  | some v => { st with loc := setE k (share v) st.loc }
  | none => match look k st.env with
    | some v => { st with env := setE k (share v) st.env }
    | none => st

/-- The slot is known to hold this. -/
def St.setAt (st : St) (k : Nat) (v : AC) : St :=
  match look k st.loc with
  | some _ => { st with loc := setE k v st.loc }
  | none => { st with env := setE k v st.env }

def St.ev (st : St) : Operand → AC
  | .tmp t => st.get t
  | .const v => ofV v
  | .func f => .fn f []
  | .global _ => .undef

/-- What an operand is under a guard. -/
def gOk : Option Bool → Prop
  | none => True
  | some b => b = true

abbrev un (gd : Option Bool) (v : AC) (k : AC → Prop) : Prop :=
  match v with
  | .opt g v => (gOk gd → g = true) ∧ k v
  | .nam _ v => k v
  | v => k v

def getBox (K : List (List (List AC))) (u i : Nat) : Option (List AC) := (K[u]?).bind (·[i]?)
def setBox (K : List (List (List AC))) (u i : Nat) (c : List AC) : List (List (List AC)) :=
  match K[u]? with
  | some f => K.set u (f.set i c)
  | none => K

/-- The value that some cells of a variable of this type are. -/
def mkVal (P : Program) (t : TypeId) (cs : List AC) : AC :=
  match tdOf P t with
  | .struct _ => .agg cs
  | _ => cs.headD .undef

/-- A type whose variables the abstract machine reads and writes. -/
def goodTy (P : Program) (t : TypeId) : Prop :=
  match tdOf P t with
  | .bad => False
  | _ => True

/-- What can be laid into cells. -/
def storable : AC → Bool
  | .undef => false
  | .tup _ => false
  | .opt _ _ => false
  | .nam _ _ => false
  | .als _ _ _ _ => false
  | _ => true

def isUndef : AC → Bool
  | .undef => true
  | .nam _ _ => true
  | .als _ _ _ _ => true
  | _ => false

def cellsOfV : AC → List AC
  | .agg cs => cs
  | v => [v]

def putCells (cs : List AC) (off : Nat) (new : List AC) : List AC := cs.take off ++ new ++ cs.drop (off + new.length)

def isPtr : AC → Bool
  | .ptr .. => true
  | .undef => true
  | _ => false

/-! What an abstract value says of a value in a world: 'L' are the blocks that it alone holds. -/
mutual
inductive Rep (P : Program) (w : World) (Pr : Addr → Prop) : List (List Nat) → AC → Value → List Nat → Prop
  | bool {bl b} : Rep P w Pr bl (.bool b) (.bool b) []
  | int {bl k n} : Rep P w Pr bl (.int k n) (.int k n) []
  | str {bl s b} : b.data.toList = s → s.length ≤ maxLen → Rep P w Pr bl (.str s) (.string b) []
  | slNo {bl n cells vals ad cap} : Reps P w Pr [] cells vals [] → (∀ v ∈ vals, v.oneCell' = true) →
      (∀ j u, vals[j]? = some u → Pr (ad.add j) ∧ w.cell? (ad.add j) = some u) → n ≤ cap → cap ≤ maxLen →
      Rep P w Pr bl (.sl .no n cells) (.slice (some ad) n cap) []
  | slNil {bl o} : Rep P w Pr bl (.sl o 0 []) (.slice none 0 0) []
  | slOf {bl e n cells vals g cap L} {cur : Array Value} : Reps P w Pr [] cells vals L → (∀ v ∈ vals, v.oneCell' = true) →
      w.heap[g]? = some (.cells cur e (0, 0)) → n ≤ cap → cap ≤ maxLen → 0 < P.cellsOf e → cap * P.cellsOf e ≤ cur.size → cur.toList.take (n * P.cellsOf e) = vals →
      (∀ a, Pr a → a.block = g → a.off < n * P.cellsOf e) → (∀ j, j < n * P.cellsOf e → Pr ⟨g, j, none⟩) →
      Rep P w Pr bl (.sl (.of e) n cells) (.slice (some ⟨g, 0, none⟩) n cap) (g :: L)
  | slEx {bl e n cells vals g cap L} {cur : Array Value} : Reps P w Pr [] cells vals L → (∀ v ∈ vals, v.oneCell' = true) →
      w.heap[g]? = some (.cells cur e (0, 0)) → n ≤ cap → cap ≤ maxLen → 0 < P.cellsOf e → cap * P.cellsOf e ≤ cur.size → cur.toList.take (n * P.cellsOf e) = vals →
      (∀ a, Pr a → a.block ≠ g) → Rep P w Pr bl (.sl (.ex e) n cells) (.slice (some ⟨g, 0, none⟩) n cap) (g :: L)
  | nam {bl v x L} : Rep P w Pr bl v x L → Rep P w Pr bl (.nam x v) x L
  | ept {bl t g n cap off} : Rep P w Pr bl (.ept t (.slice (some ⟨g, 0, none⟩) n cap) off) (.pointer (some ⟨g, off, none⟩)) []
  | als {bl t o base n cap} : n ≤ cap ∧ n ≤ maxLen → ((base = none ∧ n = 0) ∨ ∃ g, base = some ⟨g, 0, none⟩) → Rep P w Pr bl (.als t o (.slice base n cap) (some n)) (.slice base n cap) []
  | alsA {bl t o x} : Rep P w Pr bl (.als t o x none) x []
  | agg {bl cells vals L} : Reps P w Pr bl cells vals L → (∀ v ∈ vals, v.oneCell' = true) → Rep P w Pr bl (.agg cells) (.agg vals.toArray) L
  | tup {bl vs vals L} : Reps P w Pr bl vs vals L → Rep P w Pr bl (.tup vs) (.tuple vals.toArray) L
  | ptr {bl : List (List Nat)} {u i off g} : (bl[u]?).bind (·[i]?) = some g → Rep P w Pr bl (.ptr u i off) (.pointer (some ⟨g, off, none⟩)) []
  | ref {bl cells vals ad} : Reps P w Pr [] cells vals [] → (∀ v ∈ vals, v.oneCell' = true) →
      (∀ j u, vals[j]? = some u → Pr (ad.add j) ∧ w.cell? (ad.add j) = some u) → Rep P w Pr bl (.ref cells) (.pointer (some ad)) []
  | fn {bl f caps vals} : (∀ c ∈ caps, isPtr c = true) → Reps P w Pr bl caps vals [] → Rep P w Pr bl (.fn f caps) (.func (.func f) #[] vals.toArray) []
  | optT {bl v x L} : Rep P w Pr bl v x L → Rep P w Pr bl (.opt true v) x L
  | optF {bl v} : Rep P w Pr bl (.opt false v) Go.undef []
  | undef {bl x} : Rep P w Pr bl .undef x []
inductive Reps (P : Program) (w : World) (Pr : Addr → Prop) : List (List Nat) → List AC → List Value → List Nat → Prop
  | nil {bl} : Reps P w Pr bl [] [] []
  | cons {bl a as v vs L M} : Rep P w Pr bl a v L → Reps P w Pr bl as vs M → Reps P w Pr bl (a :: as) (v :: vs) (L ++ M)
end

/-- Slots. -/
def RepE (P : Program) (w : World) (Pr : Addr → Prop) (bl : List (List Nat)) (tmps : Array Value) : List (Nat × AC) → List Nat → Prop
  | [], L => L = []
  | (k, v) :: r, L => ∃ L1 L2 x, tmps[k]? = some x ∧ Rep P w Pr bl v x L1 ∧ RepE P w Pr bl tmps r L2 ∧ L = L1 ++ L2

/-- The boxes of one frame. -/
def RepF (P : Program) (w : World) (Pr : Addr → Prop) (bl : List (List Nat)) : List (List AC) → List Nat → List Nat → Prop
  | [], gs, L => gs = [] ∧ L = []
  | c :: f, gs, L => ∃ g gs' cur T L1 L2, gs = g :: gs' ∧ w.heap[g]? = some (.cells cur T (0, 0)) ∧ Reps P w Pr bl c cur.toList L1 ∧ (∀ v ∈ cur.toList, v.oneCell' = true) ∧
      (∀ a, Pr a → a.block ≠ g) ∧ RepF P w Pr bl f gs' L2 ∧ L = L1 ++ L2

/-- The boxes of all frames. -/
def RepK (P : Program) (w : World) (Pr : Addr → Prop) : List (List (List AC)) → List (List Nat) → List Nat → Prop
  | [], bl, L => bl = [] ∧ L = []
  | f :: K, bl, L => ∃ b bl' L1 L2, bl = b :: bl' ∧ RepF P w Pr (b :: bl') f b L1 ∧ RepK P w Pr K bl' L2 ∧ L = L1 ++ L2

/-- What has become of the world since w0, if the blocks in F may have been touched. -/
structure Since (w0 : World) (Pr0 : Addr → Prop) (F : List Nat) (w : World) (Pr : Addr → Prop) : Prop where
  os : w.os = w0.os
  tape : w.tape = w0.tape
  output : w.output = w0.output
  size : w0.heap.size ≤ w.heap.size
  block : ∀ b, b < w0.heap.size → b ∉ F → w.heap[b]? = w0.heap[b]?
  prot : ∀ a, Pr0 a → Pr a ∧ w.cell? a = w0.cell? a
  newPr : ∀ a, Pr a → Pr0 a ∨ a.block ∈ F ∨ w0.heap.size ≤ a.block

/-- The boxes of the innermost frame may have become more. -/
def BlExt (n : Nat) (bl bl' : List (List Nat)) : Prop := bl' = bl ∨ ∃ b r gs, bl = b :: r ∧ bl' = (b ++ gs) :: r ∧ ∀ g ∈ gs, n ≤ g

/-- What a law's card says of the library's tables, and the cells that hold some int: promised to stay. -/
def tabs : List (Addr × Value) := ((List.range 256).map fun c => ((⟨1, c, none⟩ : Addr), Value.int .u8 (Lib.firstT c))) ++ ((List.range 16).flatMap fun i => [((⟨2, 2 * i, none⟩ : Addr), Value.int .u8 (Lib.accLo i)), (⟨2, 2 * i + 1, none⟩, .int .u8 (Lib.accHi i))])
def tabInts : List Addr := [⟨4, 0, none⟩]
def Tab (w : World) (Pr : Addr → Prop) : Prop := (∀ x ∈ tabs, Pr x.1 ∧ w.cell? x.1 = some x.2) ∧ ∀ a ∈ tabInts, Pr a ∧ ∃ m, w.cell? a = some (.int .i64 m)
theorem Tab.kept {w w' : World} {Pr Pr' : Addr → Prop} (hp : ∀ a, Pr a → Pr' a ∧ w'.cell? a = w.cell? a) (h : Tab w Pr) : Tab w' Pr' :=
  ⟨fun x hx => ⟨(hp _ (h.1 x hx).1).1, by rw [(hp _ (h.1 x hx).1).2]; exact (h.1 x hx).2⟩,
   fun a ha => ⟨(hp _ (h.2 a ha).1).1, by rw [(hp _ (h.2 a ha).1).2]; exact (h.2 a ha).2⟩⟩

/-- The function f, called with args over the boxes K, returns r and leaves the boxes K'. -/
def Ct (P : Program) (f : FuncId) (args : List AC) (K : List (List (List AC))) (r : AC) (K' : List (List (List AC))) : Prop :=
  (∃ fn, P.funcs[f]? = some fn ∧ fn.body.isSome = true ∧ (fn.name == "runtime.NumGoroutine") = false) ∧ ∀ (w : World) (Pr : Addr → Prop) (bl : List (List Nat)) (vals : List Value) (La Lk : List Nat),
    Reps P w Pr bl args vals La → RepK P w Pr K bl Lk → (∀ x, (La ++ Lk ++ bl.flatten).count x ≤ 1) → (∀ a, Pr a → a.block < w.heap.size) → Tab w Pr →
    Calls P f vals.toArray w fun e w' => ∃ v Pr' Lr Lk' bl', e = .returned v ∧ BlExt w.heap.size bl bl' ∧ Rep P w' Pr' bl' r v Lr ∧ RepK P w' Pr' K' bl' Lk' ∧
      (∀ x, (Lr ++ Lk' ++ bl'.flatten).count x ≤ 1) ∧ (∀ x ∈ Lr ++ Lk', x ∈ La ++ Lk ∨ w.heap.size ≤ x) ∧ (∀ a, Pr' a → a.block < w'.heap.size) ∧
      Since w Pr (La ++ Lk ++ bl.flatten) w' Pr'

/-- The same of a function that may write what its first argument alone holds: that is 'back' afterwards. -/
def CtB (P : Program) (f : FuncId) (args : List AC) (K : List (List (List AC))) (r : AC) (K' : List (List (List AC))) (back : AC) : Prop :=
  (∃ fn, P.funcs[f]? = some fn ∧ fn.body.isSome = true ∧ (fn.name == "runtime.NumGoroutine") = false) ∧ ∀ (w : World) (Pr : Addr → Prop) (bl : List (List Nat)) (v0 : Value) (vals : List Value) (La Lk : List Nat),
    Reps P w Pr bl args (v0 :: vals) La → RepK P w Pr K bl Lk → (∀ x, (La ++ Lk ++ bl.flatten).count x ≤ 1) → (∀ a, Pr a → a.block < w.heap.size) → Tab w Pr →
    Calls P f (v0 :: vals).toArray w fun e w' => ∃ v Pr' Lr Lb Lk' bl', e = .returned v ∧ BlExt w.heap.size bl bl' ∧ Rep P w' Pr' bl' r v Lr ∧ Rep P w' Pr' bl' back v0 Lb ∧ RepK P w' Pr' K' bl' Lk' ∧
      (∀ x, (Lr ++ Lb ++ Lk' ++ bl'.flatten).count x ≤ 1) ∧ (∀ x ∈ Lr ++ Lb ++ Lk', x ∈ La ++ Lk ∨ w.heap.size ≤ x) ∧ (∀ a, Pr' a → a.block < w'.heap.size) ∧
      Since w Pr (La ++ Lk ++ bl.flatten) w' Pr'

/-! The weakest precondition. -/
def FI.keeps (fi : FI) : Option Nat → Bool
  | some d => fi.kp.elem d
  | none => false
def FI.takes (fi : FI) : Option Nat → Bool
  | some d => fi.tk.elem d
  | none => false

/-- An operand that is used up. -/
abbrev wT (fi : FI) (m : Bool) (gd : Option Bool) (st : St) (x : Operand) (k : AC → St → Prop) : Prop :=
  match x with
  | .tmp t => un gd (st.get t) fun v => if m && fi.tk.elem t then k v (st.weak t) else k (share v) st
  | x => k (st.ev x) st

def wTs (fi : FI) (m : Bool) (gd : Option Bool) : List Operand → St → (List AC → St → Prop) → Prop
  | [], st, k => k [] st
  | x :: xs, st, k => wT fi m gd st x fun v st => wTs fi m gd xs st fun vs st => k (v :: vs) st

def zeroOf (P : Program) (t : TypeId) : Option (List AC) := ((P.info? t).bind (·.zero)).map fun z => z.cells.toList.map ofV

def fillC (place : Nat → Option (Nat × Nat)) (cells : List AC) : List (Nat × AC) → Option (List AC)
  | [] => some cells
  | (i, v) :: rest =>
    match place i with
    | none => none
    | some (off, size) => if storable v = false ∨ (cellsOfV v).length ≠ size ∨ cells.length < off + size then none else fillC place (putCells cells off (cellsOfV v)) rest

def bitsOp (op : BinOp) (k : IntKind) (x y : Int) : Int :=
  let a := BitVec.ofInt k.bits x
  let b := BitVec.ofInt k.bits y
  match op with
  | .and => k.wrap (a &&& b).toNat
  | .or => k.wrap (a ||| b).toNat
  | .xor => k.wrap (a ^^^ b).toNat
  | _ => k.wrap (a &&& ~~~b).toNat

def intBin (gd : Option Bool) (op : BinOp) (kd kd' : IntKind) (a b : Int) (k : AC → Prop) : Prop :=
  match op with
  | .shl => (gOk gd → 0 ≤ b) ∧ k (.int kd (kd.wrap (a * 2 ^ (min b.toNat kd.bits))))
  | .shr => (gOk gd → 0 ≤ b) ∧ k (.int kd (a.fdiv (2 ^ (min b.toNat kd.bits))))
  | .add => kd = kd' ∧ k (.int kd (kd.wrap (a + b)))
  | .sub => kd = kd' ∧ k (.int kd (kd.wrap (a - b)))
  | .mul => kd = kd' ∧ k (.int kd (kd.wrap (a * b)))
  | .quo => kd = kd' ∧ (gOk gd → b ≠ 0) ∧ k (.int kd (kd.wrap (a.tdiv b)))
  | .rem => kd = kd' ∧ (gOk gd → b ≠ 0) ∧ k (.int kd (a.tmod b))
  | .and => kd = kd' ∧ k (.int kd (bitsOp .and kd a b))
  | .or => kd = kd' ∧ k (.int kd (bitsOp .or kd a b))
  | .xor => kd = kd' ∧ k (.int kd (bitsOp .xor kd a b))
  | .andNot => kd = kd' ∧ k (.int kd (bitsOp .andNot kd a b))
  | .eql => kd = kd' ∧ k (.bool (decide (a = b)))
  | .neq => kd = kd' ∧ k (.bool (!decide (a = b)))
  | .lss => kd = kd' ∧ k (.bool (decide (a < b)))
  | .leq => kd = kd' ∧ k (.bool (decide (a ≤ b)))
  | .gtr => kd = kd' ∧ k (.bool (decide (a > b)))
  | .geq => kd = kd' ∧ k (.bool (decide (a ≥ b)))

def strBin (gd : Option Bool) (op : BinOp) (a b : List UInt8) (k : AC → Prop) : Prop :=
  match op with
  | .add => (gOk gd → a.length + b.length ≤ maxLen) ∧ k (.str (a ++ b))
  | .eql => k (.bool (decide (a = b)))
  | .neq => k (.bool (!decide (a = b)))
  | .lss => k (.bool (Op.bytesLess a b))
  | .leq => k (.bool (Op.bytesLess a b || decide (a = b)))
  | .gtr => k (.bool (!(Op.bytesLess a b || decide (a = b))))
  | .geq => k (.bool (!Op.bytesLess a b))
  | _ => False

def eqCells : List AC → List AC → Option Bool
  | [], [] => some true
  | .bool a :: r, .bool b :: s => (eqCells r s).map (decide (a = b) && ·)
  | .int j a :: r, .int k b :: s => if j = k then (eqCells r s).map (decide (a = b) && ·) else none
  | .str a :: r, .str b :: s => (eqCells r s).map (decide (a = b) && ·)
  | _, _ => none

def wBin (P : Program) (gd : Option Bool) (op : BinOp) (t : TypeId) (x y : AC) (k : AC → Prop) : Prop :=
  match x, y with
  | .int j a, .int j' b => intBin gd op j j' a b k
  | .str a, .str b => strBin gd op a b k
  | .bool a, .bool b => match op, tdOf P t with
    | .eql, .bool => k (.bool (decide (a = b)))
    | .neq, .bool => k (.bool (!decide (a = b)))
    | _, _ => False
  | .undef, _ => ¬ gOk gd ∧ k .undef
  | _, .undef => ¬ gOk gd ∧ k .undef
  | _, _ => False

def bytesOf : List AC → Option (List UInt8)
  | [] => some []
  | .int .u8 n :: r => (bytesOf r).map (UInt8.ofNat n.toNat :: ·)
  | _ :: _ => none

def wConv (P : Program) (src dst : TypeId) (x : AC) (k : AC → Prop) : Prop :=
  match tdOf P src, tdOf P dst, x with
  | .int _, .int j, .int _ n => k (.int j (j.wrap n))
  | .str, .str, .str s => k (.str s)
  | .slice e, .str, .sl _ n cells => match bytesOf cells, tdOf P e with
    | some bs, .int .u8 => bs.length = n ∧ bs.length ≤ maxLen ∧ k (.str bs)
    | _, _ => False
  | _, _, _ => False

def pickV (c : Bool) : AC → AC → AC
  | .bool x, .bool y => .bool (if c then x else y)
  | .int j x, .int j' y => if j = j' then .int j (if c then x else y) else (if c then .int j x else .int j' y)
  | .str x, .str y => .str (if c then x else y)
  | x, y => if c then x else y

def optInt (gd : Option Bool) (st : St) (d : Int) : Option Operand → (Int → Prop) → Prop
  | none, k => k d
  | some x, k => un gd (st.ev x) fun v => match v with
    | .int _ n => k n
    | _ => False

/-- A function's call. -/
def callK (P : Program) (m : Bool) (gd : Option Bool) (f : FuncId) (args : List AC) (k : AC → St → Prop) (st : St) : Prop :=
  if m then ∃ r K', Ct P f args st.K r K' ∧ k r { st with K := K' }
  else ∃ r, (gOk gd → Ct P f args st.K r st.K) ∧ k r st

abbrev wLen (gd : Option Bool) (t : TD) (v : AC) (k : AC → Prop) : Prop :=
  match t, v with
  | .str, .str s => (gOk gd → s.length ≤ maxLen) → k (.int .i64 s.length)
  | .slice _, .sl _ n _ => (gOk gd → n ≤ maxLen) → k (.int .i64 n)
  | .slice _, .als _ _ _ (some n) => (gOk gd → n ≤ maxLen) → k (.int .i64 n)
  | .slice _, .als _ _ (.slice _ n _) none => k (.int .i64 n)
  | .str, .undef => ¬ gOk gd ∧ k (.int .i64 0)
  | _, _ => False

/-- What may be written in it. -/
def cellX : AC → Bool
  | .sl (.ex _) _ _ => true
  | .nam _ _ => true
  | _ => false
def isX : AC → Bool
  | .sl (.ex _) _ _ => true
  | .agg cs => cs.any cellX
  | _ => false

/-- A slot that alone holds something is named. -/
def nameE : List (Nat × AC) → (List (Nat × AC) → Prop) → Prop
  | [], k => k []
  | (j, v) :: r, k => if isX v then ∀ y : Value, nameE r fun r' => k ((j, .nam y v) :: r') else nameE r fun r' => k ((j, v) :: r')

/-- What needs no promise of the world. -/
def scalar : AC → Bool
  | .bool _ => true
  | .int _ _ => true
  | .str _ => true
  | _ => false
def unN : AC → AC
  | .nam _ v => v
  | v => v
/-- What is left of a value while all is lent: a pointer to a box points to cells that nobody writes. -/
def lendV (K : List (List (List AC))) (v : AC) : AC :=
  match unN v with
  | .ptr u i 0 => match getBox K u i with
    | some cells => if cells.all flat then .ref (lendL cells) else .undef
    | none => .undef
  | .agg cs => if cs.all flat then .agg (lendL cs) else .undef
  | v => if flat v then lendS v else .undef
/-- What slots hold, to be looked at: each under its name. -/
def nameX (K : List (List (List AC))) : List (Nat × AC) → (List (Nat × AC) → Prop) → Prop
  | [], k => k []
  | (j, v) :: r, k => if scalar v then nameX K r fun r' => k ((j, v) :: r') else ∀ y : Value, nameX K r fun r' => k ((j, .nam y (lendV K v)) :: r')
/-- What still bears its name is what it was; all else is closed. -/
def backE (env0 env1 : List (Nat × AC)) : List (Nat × AC) → (List (Nat × AC) → Prop) → Prop
  | [], k => k []
  | (j, v) :: r, k => match v with
    | .nam y _ => match look j env1, look j env0 with
      | some (.nam y' _), some u => y' = y ∧ backE env0 env1 r fun r' => k ((j, u) :: r')
      | _, _ => False
    | v => closed v = true ∧ backE env0 env1 r fun r' => k ((j, toEx v) :: r')

/-- The slots' share of cells. -/
def shareO : Ow → List AC → List AC
  | .no, cs => cs
  | _, cs => shareL cs

/-- A copy of what a slot holds under a name. -/
def lenOf : AC → Option Nat
  | .sl _ n _ => some n
  | _ => none

/-- Operands that are looked at. -/
def wXs (gd : Option Bool) (st : St) : List Operand → (List AC → Prop) → Prop
  | [], k => k []
  | x :: xs, k => un gd (st.ev x) fun v => wXs gd st xs fun vs => k (share v :: vs)

/-- What an operand's name stands for, what may stand there, and the state with something else under it. -/
abbrev wBorrow (st : St) (x : Operand) (k : AC → (AC → Bool) → (AC → St) → Prop) : Prop :=
  match x with
  | .tmp s => match st.get s with
    | .als s' none y _ => match st.get s' with
      | .nam y' v => y' = y ∧ k v (fun _ => true) (fun u => st.setAt s' (.nam y u))
      | _ => False
    | .als s' (some o) y _ => match st.get s' with
      | .nam y' (.sl (.ex e) n cs) => match cs[o]? with
        | some (.nam z v) => z = y ∧ k v flat (fun u => st.setAt s' (.nam y' (.sl (.ex e) n (cs.set o u))))
        | _ => False
      | .nam y' (.agg cs) => match cs[o]? with
        | some (.nam z v) => z = y ∧ k v (fun _ => true) (fun u => st.setAt s' (.nam y' (.agg (cs.set o u))))
        | _ => False
      | _ => False
    | .nam y v => k v (fun _ => true) (fun u => st.setAt s (.nam y u))
    | _ => False
  | _ => False

/-- A call that writes what its first argument alone holds. -/
def callB (P : Program) (gd : Option Bool) (f : FuncId) (args : List Operand) (k : AC → St → Prop) (st : St) : Prop :=
  match args with
  | x :: xs => wBorrow st x fun v ok put => wXs gd st xs fun vs => ∃ r K' back, CtB P f (v :: vs) st.K r K' back ∧ ok back = true ∧ k r { put back with K := K' }
  | [] => False

def zeroLen (P : Program) (e : TypeId) : Prop :=
  match zeroOf P e with
  | some zs => zs.length = P.cellsOf e
  | none => False

/-- Who holds what was appended to. -/
def appOw (keep : Bool) (e : TypeId) : Ow → Option Ow
  | .nil => some (if keep then .ex e else .of e)
  | .of e' => if e' = e then some (.of e) else none
  | .ex e' => if e' = e then some (.ex e) else none
  | .no => none

abbrev wAppend (P : Program) (keep : Bool) (t : TD) (s v : AC) (k : AC → Prop) : Prop :=
  match t, s, v with
  | .slice e, .sl o n cells, .sl _ c new => match appOw keep e o with
    | some o' => 0 < P.cellsOf e ∧ zeroLen P e ∧ n + c ≤ maxLen ∧ (n + c) * P.bytesOf e ≤ 140737488355328 ∧
      new.length = c * P.cellsOf e ∧ k (.sl o' (n + c) (cells ++ new))
    | none => False
  | .slice e, .nam _ (.sl o n cells), .sl _ c new => match appOw keep e o with
    | some o' => 0 < P.cellsOf e ∧ zeroLen P e ∧ n + c ≤ maxLen ∧ (n + c) * P.bytesOf e ≤ 140737488355328 ∧
      new.length = c * P.cellsOf e ∧ k (.sl o' (n + c) (cells ++ new))
    | none => False
  | _, _, _ => False

/-- A text's bytes, as cells. -/
def byteCells (s : List UInt8) : List AC := s.map fun b => .int .u8 b.toNat
abbrev wAppendS (P : Program) (keep : Bool) (t : TD) (s v : AC) (k : AC → Prop) : Prop :=
  match t, s, v with
  | .slice e, .sl o n cells, .str ss => match appOw keep e o with
    | some o' => P.cellsOf e = 1 ∧ zeroLen P e ∧ n + ss.length ≤ maxLen ∧ (n + ss.length) * P.bytesOf e ≤ 140737488355328 ∧ k (.sl o' (n + ss.length) (cells ++ byteCells ss))
    | none => False
  | _, _, _ => False

abbrev wBuiltin (P : Program) (fi : FI) (m keep : Bool) (gd : Option Bool) (b : Builtin) (args : List Operand) (ts : List TypeId) (st : St) (k : AC → St → Prop) : Prop :=
  match b, args, ts with
  | .len, [x], t :: _ => un gd (st.ev x) fun v => wLen gd (tdOf P t) v fun v => k v st
  | .append, [.tmp s, x], [t, t'] => m = true ∧ match tdOf P t' with
    | .str => wT fi m gd (st.weak s) x fun v st' => wAppendS P keep (tdOf P t) (st.get s) v fun v => k v st'
    | _ => t = t' ∧ wT fi m gd (st.weak s) x fun v st' => wAppend P keep (tdOf P t) (st.get s) v fun v => k v st'
  | .min, [x, y], _ => un gd (st.ev x) fun u => un gd (st.ev y) fun v => match u, v with
    | .int i a, .int j b => i = j ∧ k (.int i (if b < a then b else a)) st
    | _, _ => False
  | .max, [x, y], _ => un gd (st.ev x) fun u => un gd (st.ev y) fun v => match u, v with
    | .int i a, .int j b => i = j ∧ k (.int i (if a < b then b else a)) st
    | _, _ => False
  | _, _, _ => False

abbrev wCall (P : Program) (fi : FI) (m keep : Bool) (gd : Option Bool) (c : Call) (st : St) (k : AC → St → Prop) : Prop :=
  match c.callee with
  | .value f => un gd (st.ev f) fun f => match f with
    | .fn f caps => if m && fi.bw.elem f then caps = [] ∧ callB P gd f c.args.toList k st
      else wTs fi m gd c.args.toList st fun vs st => callK P m gd f (vs ++ caps) k st
    | _ => False
  | .builtin b => wBuiltin P fi m keep gd b c.args.toList c.argTypes.toList st k
  | .invoke _ _ => False

abbrev wD_move (P : Program) (fi : FI) (m : Bool) (gd : Option Bool) (dst0 : Option Nat) (x : Operand) (st : St) (k : AC → St → Prop) : Prop :=
  match x with
    | .tmp t => if m && fi.takes dst0 then un gd (st.get t) fun v => k v (st.weak t) else match st.get t with
      | .nam y v => if isX v then k (.als t none y (lenOf v)) st else k (share v) st
      | v => un gd v fun v => k (share v) st
    | x => k (st.ev x) st

abbrev wD_assign (P : Program) (fi : FI) (m : Bool) (gd : Option Bool) (dst0 : Option Nat) (x : Operand) (st : St) (k : AC → St → Prop) : Prop :=
  wT fi m gd st x k

abbrev wD_pick (P : Program) (fi : FI) (m : Bool) (gd : Option Bool) (dst0 : Option Nat) (c a b : Operand) (st : St) (k : AC → St → Prop) : Prop :=
  un gd (st.ev c) fun c => match c with
    | .bool c => un (some ((gd.getD true) && c)) (st.ev a) fun a => un (some ((gd.getD true) && !c)) (st.ev b) fun b => k (share (pickV c a b)) st
    | .undef => ¬ gOk gd ∧ k .undef st
    | _ => False

/-- A type's zero is of cells that are one value each. -/
def zeroOk (P : Program) (t : TypeId) : Bool := match (P.info? t).bind (·.zero) with
  | some z => z.cells.toList.all Value.oneCell'
  | none => false
abbrev wD_alloc (P : Program) (fi : FI) (m : Bool) (gd : Option Bool) (dst0 : Option Nat) (t : TypeId) (st : St) (k : AC → St → Prop) : Prop :=
  m = true ∧ match zeroOf P t, st.K with
    | some cs, f :: K => zeroOk P t = true ∧ k (.ptr 0 f.length 0) { st with K := (f ++ [cs]) :: K }
    | _, _ => False

/-- Does a cell hold something alone? -/
def ownC : AC → Bool
  | .sl (.ex _) _ _ => true
  | .sl (.of _) _ _ => true
  | _ => false
/-- Cells whose owners slot d holds. -/
def alsC (d : Nat) : List AC → List Value → List AC
  | c :: cs, z :: zs => (if ownC c then .als d none z none else c) :: alsC d cs zs
  | _, _ => []
/-- Owners under their names. -/
def namC : List AC → List Value → List AC
  | c :: cs, z :: zs => (if ownC c then .nam z c else c) :: namC cs zs
  | _, _ => []
/-- Cells of whose owners slot s holds each in a cell of its own. -/
def alsB (s : Nat) : Nat → List AC → List Value → List AC
  | j, c :: cs, z :: zs => (if ownC c then .als s (some j) z none else c) :: alsB s (j + 1) cs zs
  | _, _, _ => []
/-- A box of what a slot holds under a name: the slot goes on holding it. -/
def wBoxN (st : St) (x : Operand) (k : AC → St → Prop) : Prop :=
  match x with
  | .tmp s => match st.get s, st.K with
    | .nam y (.agg cells), f :: K => cells.all flat = true ∧ ∀ zs : List Value, y = .agg zs.toArray → zs.length = cells.length →
        k (.ptr 0 f.length 0) { st.setAt s (.nam y (.agg (namC cells zs))) with K := (f ++ [alsB s 0 cells zs]) :: K }
    | _, _ => False
  | _ => False
abbrev wD_box (P : Program) (fi : FI) (m : Bool) (gd : Option Bool) (dst0 : Option Nat) (t : TypeId) (x : Operand) (st : St) (k : AC → St → Prop) : Prop :=
  m = true ∧ if fi.es && fi.keeps dst0 then wBoxN st x k else wT fi m gd st x fun v st => match v, st.K with
    | .tup _, _ => False
    | .opt _ _, _ => False
    | v, f :: K => isUndef v = false ∧ k (.ptr 0 f.length 0) { st with K := (f ++ [cellsOfV v]) :: K }
    | _, [] => False

abbrev wD_build (P : Program) (fi : FI) (m : Bool) (gd : Option Bool) (dst0 : Option Nat) (t : TypeId) (parts : Array (Nat × Operand)) (st : St) (k : AC → St → Prop) : Prop :=
  wTs fi m gd (parts.toList.map (·.2)) st fun vs st => match tdOf P t, zeroOf P t with
    | .struct fs, some zs => (fs.all fun f => decide (0 < f.2.1)) = true ∧ (zs.all storable) = true ∧ match fillC (fun i => (fs[i]?).map fun f => (f.1, f.2.1)) zs ((parts.toList.map (·.1)).zip vs) with
      | some cs => k (.agg cs) st
      | none => False
    | _, _ => False

abbrev wD_buildSlice (P : Program) (fi : FI) (m : Bool) (gd : Option Bool) (dst0 : Option Nat) (t : TypeId) (len : Nat) (parts : Array (Nat × Operand)) (st : St) (k : AC → St → Prop) : Prop :=
  wTs fi m gd (parts.toList.map (·.2)) st fun vs st => match tdOf P t with
    | .slice e => 0 < P.cellsOf e ∧ len * P.cellsOf e ≤ 16777216 ∧ match zeroOf P e with
      | some zs => (zs.all storable) = true ∧ zs.length = P.cellsOf e ∧ match fillC (fun i => some (i * P.cellsOf e, P.cellsOf e)) (List.replicate len zs).flatten ((parts.toList.map (·.1)).zip vs) with
        | some cs => (cs.all flat) = true ∧ k (.sl (if fi.keeps dst0 then .ex e else .of e) len cs) st
        | none => False
      | none => False
    | _ => False

/-- A box's slice is taken under a name, or what was so taken is given back. -/
abbrev wKeep (P : Program) (dst0 : Option Nat) (t : TypeId) (st : St) (u i off : Nat) (cells : List AC) (k : AC → St → Prop) : Prop :=
  match tdOf P t, dst0, cells[off]? with
  | .slice _, some d, some (.sl (.ex e) n cs) => P.cellsOf t = 1 ∧ ∀ z : Value, k (.nam z (.sl (.ex e) n cs)) { st with K := setBox st.K u i (cells.set off (.als d none z none)) }
  | .slice _, some _, some (.als s none y _) => P.cellsOf t = 1 ∧ match st.get s with
    | .nam y' v => y' = y ∧ k v (st.weak s)
    | _ => False
  | .struct _, some d, _ => off = 0 ∧ cells.length = P.cellsOf t ∧ cells.all flat = true ∧ ∀ (z : Value) (zs : List Value), z = .agg zs.toArray → zs.length = cells.length →
      k (.nam z (.agg cells)) { st with K := setBox st.K u i (alsC d cells zs) }
  | _, _, _ => False

abbrev wD_load (P : Program) (fi : FI) (m : Bool) (gd : Option Bool) (dst0 : Option Nat) (t : TypeId) (x : Operand) (st : St) (k : AC → St → Prop) : Prop :=
  0 < P.cellsOf t ∧ goodTy P t ∧ un gd (st.ev x) fun p => match p with
    | .ptr u i off => match getBox st.K u i with
      | some cells => off + P.cellsOf t ≤ cells.length ∧
        (if m && fi.es && fi.keeps dst0 then wKeep P dst0 t st u i off cells k
         else if m && fi.takes dst0 then k (mkVal P t (((cells.drop off).take (P.cellsOf t)).map (mapC (liftP u)))) { st with K := setBox st.K u i (putCells cells off (shareL ((cells.drop off).take (P.cellsOf t)))) }
         else k (share (mkVal P t (((cells.drop off).take (P.cellsOf t)).map (mapC (liftP u))))) st)
      | none => False
    | .ref cells => (gOk gd → P.cellsOf t ≤ cells.length) ∧ k (mkVal P t (cells.take (P.cellsOf t))) st
    | .ept s y off => fi.es = true ∧ match st.get s with
      | .nam y' (.sl (.ex e) n cells) => y' = y ∧ off + P.cellsOf t ≤ cells.length ∧ match tdOf P t, cells[off]? with
        | .slice _, some (.sl (.ex e2) n2 cs2) => m = true ∧ P.cellsOf t = 1 ∧ ∀ z : Value, k (.als s (some off) z (some n2)) (st.setAt s (.nam y (.sl (.ex e) n (cells.set off (.nam z (.sl (.ex e2) n2 cs2))))))
        | _, _ => k (share (mkVal P t ((cells.drop off).take (P.cellsOf t)))) st
      | _ => False
    | _ => False

abbrev wD_store (P : Program) (fi : FI) (m : Bool) (gd : Option Bool) (dst0 : Option Nat) (t : TypeId) (a x : Operand) (st : St) (k : AC → St → Prop) : Prop :=
  m = true ∧ 0 < P.cellsOf t ∧ goodTy P t ∧ un gd (st.ev a) fun p => wT fi m gd st x fun v st => match p with
    | .ptr u i off => match getBox st.K u i with
      | some cells => off + P.cellsOf t ≤ cells.length ∧ isUndef v = false ∧ (cellsOfV v).length = P.cellsOf t ∧ match (cellsOfV v).mapM (lowC u) with
        | some new => k .undef { st with K := setBox st.K u i (putCells cells off new) }
        | none => False
      | none => False
    | .ept s y off => fi.es = true ∧ match st.get s with
      | .nam y' (.sl (.ex e) n cells) => y' = y ∧ off + P.cellsOf t ≤ cells.length ∧ isUndef v = false ∧ (cellsOfV v).length = P.cellsOf t ∧ ((cellsOfV v).all flat) = true ∧
        k .undef (st.setAt s (.nam y (.sl (.ex e) n (putCells cells off (cellsOfV v)))))
      | _ => False
    | _ => False

abbrev wD_nilCheck (P : Program) (fi : FI) (m : Bool) (gd : Option Bool) (dst0 : Option Nat) (x : Operand) (st : St) (k : AC → St → Prop) : Prop :=
  un gd (st.ev x) fun v => match v with
    | .ptr u i off => k (.ptr u i off) st
    | .ref cells => k (.ref cells) st
    | .ept s y off => k (.ept s y off) st
    | _ => False

/-- The literal nil of slices. -/
def isNilC : Operand → Bool
  | .const (.slice none 0 0) => true
  | _ => false
/-- A slice beside nil: one without elements may be nil, or not. -/
def nilCmp (op : BinOp) (td : TD) (a : AC) (k : AC → Prop) : Prop :=
  match op, td, a with
  | .eql, .slice _, .sl o n _ => o.isEx = false ∧ ∀ b : Bool, (b = true → n = 0) → k (.bool b)
  | .neq, .slice _, .sl o n _ => o.isEx = false ∧ ∀ b : Bool, (b = false → n = 0) → k (.bool b)
  | _, _, _ => False
abbrev wD_binOp (P : Program) (fi : FI) (m : Bool) (gd : Option Bool) (dst0 : Option Nat) (op : BinOp) (t : TypeId) (x y : Operand) (t' : TypeId) (st : St) (k : AC → St → Prop) : Prop :=
  if isNilC y then un gd (st.ev x) fun a => nilCmp op (tdOf P t) a fun v => k v st
  else un gd (st.ev x) fun a => un gd (st.ev y) fun b => wBin P gd op t a b fun v => k v st

abbrev wD_unOp (P : Program) (fi : FI) (m : Bool) (gd : Option Bool) (dst0 : Option Nat) (op : UnOp) (t : TypeId) (x : Operand) (st : St) (k : AC → St → Prop) : Prop :=
  un gd (st.ev x) fun v => match op, v with
    | .not, .bool b => k (.bool !b) st
    | .neg, .int j n => k (.int j (j.wrap (0 - n))) st
    | _, _ => False

abbrev wD_convert (P : Program) (fi : FI) (m : Bool) (gd : Option Bool) (dst0 : Option Nat) (src dst : TypeId) (x : Operand) (st : St) (k : AC → St → Prop) : Prop :=
  un gd (st.ev x) fun v => wConv P src dst v fun v => k v st

abbrev wD_makeFunc (P : Program) (fi : FI) (m : Bool) (gd : Option Bool) (dst0 : Option Nat) (f : FuncId) (first captured : Array Operand) (st : St) (k : AC → St → Prop) : Prop :=
  first = #[] ∧ (captured.toList.map st.ev).all isPtr = true ∧ k (.fn f (captured.toList.map st.ev)) st

abbrev wD_makeSlice (P : Program) (fi : FI) (m : Bool) (gd : Option Bool) (dst0 : Option Nat) (t : TypeId) (len cap : Operand) (st : St) (k : AC → St → Prop) : Prop :=
  un gd (st.ev len) fun n => un gd (st.ev cap) fun c => match n, c, tdOf P t with
    | .int _ n, .int _ c, .slice e => (gOk gd → 0 ≤ n ∧ n = c ∧ n ≤ maxLen ∧ P.bytesOf e * n ≤ 281474976710656) ∧ 0 < P.cellsOf e ∧ match zeroOf P e with
      | some zs => (zs.all storable) = true ∧ (zs.all flat) = true ∧ zs.length = P.cellsOf e ∧ k (.sl (if fi.keeps dst0 then .ex e else .of e) n.toNat (List.replicate n.toNat zs).flatten) st
      | none => False
    | _, _, _ => False

abbrev wD_slice (P : Program) (fi : FI) (m : Bool) (gd : Option Bool) (dst0 : Option Nat) (t : TypeId) (x : Operand) (lo hi mx : Option Operand) (st : St) (k : AC → St → Prop) : Prop :=
  mx = none ∧ un gd (st.ev x) fun v => match tdOf P t, v with
    | .str, .str s => optInt gd st 0 lo fun l => optInt gd st s.length hi fun h => (gOk gd → 0 ≤ l ∧ l ≤ h ∧ h ≤ s.length) ∧ k (.str ((s.take h.toNat).drop l.toNat)) st
    | .slice e, .sl o n cells => optInt gd st 0 lo fun l => optInt gd st n hi fun h => o.isEx = false ∧ (gOk gd → 0 < P.cellsOf e ∧ 0 ≤ l ∧ l ≤ h ∧ h ≤ n) ∧
        k (.sl .no (h.toNat - l.toNat) (shareO o ((cells.take (h.toNat * P.cellsOf e)).drop (l.toNat * P.cellsOf e)))) st
    | .slice e, .als s none y (some n) => fi.es = true ∧ m = true ∧ hi = none ∧ optInt gd st 0 lo fun l => (gOk gd → 0 < n ∧ 0 ≤ l ∧ l ≤ n) ∧ P.cellsOf e = 1 ∧
        ∀ (a : Option Addr) (c : Nat), (l < n → ∃ g : Nat, a = some ⟨g, l.toNat, none⟩ ∧ y = .slice (some ⟨g, 0, none⟩) (n - l.toNat + l.toNat) (c + l.toNat)) → k (.als s none (.slice a (n - l.toNat) c) none) st
    | _, _ => False

abbrev wD_fieldAddr (P : Program) (fi : FI) (m : Bool) (gd : Option Bool) (dst0 : Option Nat) (s : TypeId) (x : Operand) (f : Nat) (st : St) (k : AC → St → Prop) : Prop :=
  match tdOf P s with
    | .struct fs => match fs[f]? with
      | some (off, sz, _) => 0 < sz ∧ un gd (st.ev x) fun p => match p with
        | .ptr u i o => k (.ptr u i (o + off)) st
        | .ref cells => (gOk gd → off + sz ≤ cells.length) ∧ k (.ref ((cells.drop off).take sz)) st
        | .ept s y o => k (.ept s y (o + off)) st
        | _ => False
      | none => False
    | _ => False

abbrev wD_field (P : Program) (fi : FI) (m : Bool) (gd : Option Bool) (dst0 : Option Nat) (s : TypeId) (x : Operand) (f : Nat) (st : St) (k : AC → St → Prop) : Prop :=
  match tdOf P s with
    | .struct fs => match fs[f]? with
      | some (off, sz, t) => 0 < sz ∧ sz = P.cellsOf t ∧ goodTy P t ∧ un gd (st.ev x) fun v => match v with
        | .agg cells => off + sz ≤ cells.length ∧ k (share (mkVal P t ((cells.drop off).take sz))) st
        | .als s none y _ => fi.es = true ∧ m = true ∧ match st.get s with
          | .nam y' (.agg cells) => y' = y ∧ match tdOf P t, cells[off]? with
            | .slice _, some (.sl (.ex e2) n2 cs2) => sz = 1 ∧ ∀ z : Value, k (.als s (some off) z (some n2)) (st.setAt s (.nam y (.agg (cells.set off (.nam z (.sl (.ex e2) n2 cs2))))))
            | _, _ => False
          | _ => False
        | _ => False
      | none => False
    | _ => False

abbrev wD_indexAddr (P : Program) (fi : FI) (m : Bool) (gd : Option Bool) (dst0 : Option Nat) (t : TypeId) (x ix : Operand) (st : St) (k : AC → St → Prop) : Prop :=
  un gd (st.ev x) fun v => un gd (st.ev ix) fun i => match tdOf P t, v, i with
    | .slice e, .sl o n cells, .int _ i => o.isEx = false ∧ (gOk gd → 0 ≤ i ∧ i < n) ∧ 0 < P.cellsOf e ∧ cells.length = n * P.cellsOf e ∧
        k (.ref (shareO o ((cells.drop (i.toNat * P.cellsOf e)).take (P.cellsOf e)))) st
    | .slice e, .als s none y (some n), .int _ i => (gOk gd → 0 ≤ i ∧ i < n) ∧ 0 < P.cellsOf e ∧ k (.ept s y (i.toNat * P.cellsOf e)) st
    | .slice e, .als s none (.slice (some ⟨g, l, none⟩) n c) none, .int _ i => (gOk gd → 0 ≤ i ∧ i < n) ∧ P.cellsOf e = 1 ∧ k (.ept s (.slice (some ⟨g, 0, none⟩) (n + l) (c + l)) (i.toNat + l)) st
    | _, _, _ => False

abbrev wD_index (P : Program) (fi : FI) (m : Bool) (gd : Option Bool) (dst0 : Option Nat) (t : TypeId) (x ix : Operand) (st : St) (k : AC → St → Prop) : Prop :=
  un gd (st.ev x) fun v => un gd (st.ev ix) fun i => match tdOf P t, v, i with
    | .str, .str s, .int _ i => (gOk gd → 0 ≤ i ∧ i < s.length) ∧ k (.int .u8 (s.getD i.toNat 0).toNat) st
    | _, _, _ => False

abbrev wD_extract (P : Program) (fi : FI) (m : Bool) (gd : Option Bool) (dst0 : Option Nat) (x : Operand) (i : Nat) (st : St) (k : AC → St → Prop) : Prop :=
  un gd (st.ev x) fun v => match v with
    | .tup vs => match vs[i]? with
      | some v => if m && fi.takes dst0 then match x with
          | .tmp s => k v (st.setAt s (.tup (vs.set i .undef)))
          | _ => False
        else k (share v) st
      | none => False
    | _ => False

abbrev wD_call (P : Program) (fi : FI) (m : Bool) (gd : Option Bool) (dst0 : Option Nat) (c : Call) (st : St) (k : AC → St → Prop) : Prop :=
  wCall P fi m (fi.keeps dst0) gd c st k

/-- One operation: the value that it yields, the state behind it. m: may it change boxes and owners? -/
def wDo (P : Program) (fi : FI) (m : Bool) (gd : Option Bool) (dst : Option Nat) (op : Go.Op) (st : St) (k : AC → St → Prop) : Prop :=
  match op with
  | .move x => wD_move P fi m gd dst x st k
  | .assign x => wD_assign P fi m gd dst x st k
  | .pick c a b => wD_pick P fi m gd dst c a b st k
  | .alloc t => wD_alloc P fi m gd dst t st k
  | .box t x => wD_box P fi m gd dst t x st k
  | .build t parts => wD_build P fi m gd dst t parts st k
  | .buildSlice t len parts => wD_buildSlice P fi m gd dst t len parts st k
  | .load t x => wD_load P fi m gd dst t x st k
  | .store t a x => wD_store P fi m gd dst t a x st k
  | .nilCheck x => wD_nilCheck P fi m gd dst x st k
  | .binOp op t x y t' => wD_binOp P fi m gd dst op t x y t' st k
  | .unOp op t x => wD_unOp P fi m gd dst op t x st k
  | .convert src tgt x => wD_convert P fi m gd dst src tgt x st k
  | .makeFunc (.func f) first captured => wD_makeFunc P fi m gd dst f first captured st k
  | .makeSlice t len cap => wD_makeSlice P fi m gd dst t len cap st k
  | .slice t x lo hi mx => wD_slice P fi m gd dst t x lo hi mx st k
  | .fieldAddr s x f => wD_fieldAddr P fi m gd dst s x f st k
  | .field s x f => wD_field P fi m gd dst s x f st k
  | .indexAddr t x ix => wD_indexAddr P fi m gd dst t x ix st k
  | .index t x ix => wD_index P fi m gd dst t x ix st k
  | .extract x i => wD_extract P fi m gd dst x i st k
  | .call c => wD_call P fi m gd dst c st k
  | _ => False

/-- The value that decides a guard. -/
def gVal (st : St) (ops : List Oper) (g : Nat) (want : Bool) : Option Bool :=
  match (ops[g]?).bind (·.dst) with
  | none => none
  | some d => match st.get d with
    | .bool b => some (b == want)
    | .opt g (.bool b) => some (g && (b == want))
    | .opt false .undef => some false
    | _ => none

abbrev putK (fi : FI) (dst : Option Nat) (k : St → Prop) (v : AC) (st : St) : Prop := k (st.put fi dst v)
abbrev optK (fi : FI) (dst : Option Nat) (b : Bool) (k : St → Prop) (v : AC) (st : St) : Prop := k (st.put fi dst (.opt b v))

def wOp (P : Program) (fi : FI) (m : Bool) (ops : List Oper) (o : Oper) (k : St → Prop) (st : St) : Prop :=
  match o.guard with
  | none => wDo P fi m none o.dst o.op st (putK fi o.dst k)
  | some (g, want) => match gVal st ops g want with
    | some b => wDo P fi false (some b) o.dst o.op st (optK fi o.dst b k)
    | none => False

def wOps (P : Program) (fi : FI) (m : Bool) (ops : List Oper) : List Oper → (St → Prop) → St → Prop
  | [], k, st => k st
  | o :: rest, k, st => wOp P fi m ops o (wOps P fi m ops rest k) st

/-- No pointers to boxes of the innermost frame from the n-th on. -/
def killP (n : Nat) : AC → AC
  | .ptr u i o => if u = 0 ∧ n ≤ i then .undef else .ptr u i o
  | v => v

def St.trunc (n : Nat) (st : St) : St :=
  { env := st.env.map fun x => (x.1, mapV (killP n) x.2), loc := [], K := match st.K with
    | f :: K => ((f.take n).map fun c => c.map (mapC (killP n))) :: K
    | [] => [] }

/-- b says no more than a. -/
inductive AC.le : AC → AC → Prop
  | refl {a} : AC.le a a
  | undef {a} : AC.le a .undef
  | share {a} : AC.le a (share a)
  | nil {o} : AC.le (.sl .nil 0 []) (.sl o 0 [])
  | sl {o n cs ds} : cs.length = ds.length → (∀ (i : Nat) (h : i < cs.length) (h' : i < ds.length), AC.le cs[i] ds[i]) → AC.le (.sl o n cs) (.sl o n ds)
  | agg {cs ds} : cs.length = ds.length → (∀ (i : Nat) (h : i < cs.length) (h' : i < ds.length), AC.le cs[i] ds[i]) → AC.le (.agg cs) (.agg ds)
  | tup {cs ds} : cs.length = ds.length → (∀ (i : Nat) (h : i < cs.length) (h' : i < ds.length), AC.le cs[i] ds[i]) → AC.le (.tup cs) (.tup ds)
  | unx {a} : AC.le a (unx a)
  | nam {y a b} : AC.le a b → AC.le (.nam y a) (.nam y b)
  | bare {y a b} : AC.le a b → AC.le (.nam y a) b
def AC.leL : List AC → List AC → Prop
  | [], [] => True
  | a :: as, b :: bs => AC.le a b ∧ AC.leL as bs
  | _, _ => False
def St.le (s t : St) : Prop := (t.env.map (·.1)).Nodup ∧ (∀ k v, look k t.env = some v → ∃ u, look k s.env = some u ∧ AC.le u v) ∧ t.loc = [] ∧ s.K = t.K

def seqK (k : St → Prop) (Q : Exit → St → Prop) : Exit → St → Prop
  | .normal => k
  | .exit id => Q (.exit id)
  | .goto l => Q (.goto l)
  | .ret => Q .ret
  | .panic c => Q (.panic c)
  | .outgrown => Q .outgrown
def blockK (id : Nat) (Q : Exit → St → Prop) : Exit → St → Prop
  | .normal => Q .normal
  | .exit id' => if id' = id then Q .normal else Q (.exit id')
  | .goto l => Q (.goto l)
  | .ret => Q .ret
  | .panic c => Q (.panic c)
  | .outgrown => Q .outgrown
/-- A round's end: the relation again, at a smaller number. -/
def roundK (I : Nat → St → Prop) (n c : Nat) (s' : St) : Prop := ∃ n', n' < n ∧ ∃ s2, (s'.trunc c).le s2 ∧ I n' s2

def noTk (fi : FI) : Operand → Bool
  | .tmp t => !(fi.tk.elem t)
  | _ => true

/-- Does the operation only read? -/
def floats (fi : FI) (dst : Option Nat) : Go.Op → Bool
  | .move _ => !(fi.takes dst)
  | .assign x => noTk fi x
  | .pick _ _ _ => true
  | .build _ ps => (ps.toList.map (·.2)).all (noTk fi)
  | .buildSlice _ _ ps => (ps.toList.map (·.2)).all (noTk fi)
  | .load _ _ => !(fi.takes dst)
  | .nilCheck _ => true
  | .binOp _ _ _ y _ => !(isNilC y)
  | .unOp _ _ _ => true
  | .convert _ _ _ => true
  | .makeFunc (.func _) _ _ => true
  | .makeSlice _ _ _ => true
  | .slice _ _ _ _ _ => true
  | .fieldAddr _ _ _ => true
  | .field _ _ _ => true
  | .indexAddr _ _ _ => true
  | .index _ _ _ => true
  | .extract _ _ => !(fi.takes dst)
  | _ => false

/-- Does it read boxes? -/
def loads : Go.Op → Bool
  | .load _ _ => true
  | _ => false

/-- 'len': its operand and that operand's type. -/
def isLen : Go.Op → Option (Operand × TypeId)
  | .call ⟨.builtin .len, args, ts⟩ => match args.toList, ts.toList with
    | [x], t :: _ => some (x, t)
    | _, _ => none
  | _ => none
def isCall : Go.Op → Bool
  | .call _ => true
  | _ => false
def wLenD (gd : Option Bool) (t : TD) (v : AC) (k : AC → Prop) : Prop :=
  match t, v with
  | .str, .str s => k (.int .i64 s.length)
  | .slice _, .sl _ n _ => k (.int .i64 n)
  | .str, .undef => ¬ gOk gd ∧ k (.int .i64 0)
  | _, _ => False
/-- A call whose result is told ahead: whatever the boxes are. -/
def qOk (fi : FI) (dst : Option Nat) : Go.Op → Bool
  | .call ⟨.value _, args, _⟩ => match dst with
    | some d => fi.qs.elem d && args.toList.all (noTk fi)
    | none => false
  | _ => false
def isQ (fi : FI) (dst : Option Nat) : Go.Op → Option (Operand × List Operand × AC)
  | .call ⟨.value f, args, ts⟩ => if qOk fi dst (.call ⟨.value f, args, ts⟩) then some (f, args.toList, (look (dst.getD 0) fi.qr).getD .undef) else none
  | _ => none
def quietK (P : Program) (gd : Option Bool) (f : FuncId) (args : List AC) (r : AC) : Prop := gOk gd → ∀ K, Ct P f args K r K
def wQ (P : Program) (gd : Option Bool) (f : Operand) (args : List Operand) (r : AC) (st : St) (k : AC → St → Prop) : Prop :=
  un gd (st.ev f) fun u => match u with
    | .fn g caps => wXs gd st args fun vs => quietK P gd g (vs ++ caps) r ∧ k r st
    | _ => False
/-- An operation, where 'len' tells nothing. -/
def wDoD (P : Program) (fi : FI) (m : Bool) (gd : Option Bool) (dst : Option Nat) (op : Go.Op) (st : St) (k : AC → St → Prop) : Prop :=
  match isLen op with
  | some (x, t) => un gd (st.ev x) fun v => wLenD gd (tdOf P t) v fun v => k v st
  | none => match isQ fi dst op with
    | some (f, args, r) => wQ P gd f args r st k
    | none => wDo P fi m gd dst op st k
/-- A load that takes. -/
def isTL (fi : FI) (dst : Option Nat) : Go.Op → Bool
  | .load _ _ => fi.takes dst
  | _ => false
def noUndef : AC → Bool
  | .agg cs => cs.all fun c => match c with
    | .undef => false
    | _ => true
  | .undef => false
  | _ => true
def ldTy : Go.Op → TypeId
  | .load t _ => t
  | _ => 0
def isAggV : AC → Bool
  | .agg _ => true
  | _ => false
/-- What is asked behind an operation of a region that draws its order. -/
def tlOk (P : Program) (fi : FI) (dst : Option Nat) (op : Go.Op) (v : AC) : Prop := isTL fi dst op = true → noUndef v = true ∧ (isAggV v = false → P.cellsOf (ldTy op) = 1)
/-- An operation of a region that draws its order. kd: calls leave the boxes as they are. -/
def wOpD (P : Program) (fi : FI) (kd : Bool) (ops : List Oper) (o : Oper) (k : St → Prop) (st : St) : Prop :=
  match o.guard with
  | none => wDoD P fi true none o.dst o.op st fun v s => ((kd = true → isCall o.op = true → s.K = st.K) ∧ tlOk P fi o.dst o.op v) ∧ k (s.put fi o.dst v)
  | some (g, want) => match gVal st ops g want with
    | some b => wDoD P fi false (some b) o.dst o.op st fun v s => ((kd = true → isCall o.op = true → s.K = st.K) ∧ tlOk P fi o.dst o.op v) ∧ k (s.put fi o.dst (.opt b v))
    | none => False
def wOpsD (P : Program) (fi : FI) (kd : Bool) (ops : List Oper) : List Oper → (St → Prop) → St → Prop
  | [], k, st => k st
  | o :: rest, k, st => wOpD P fi kd ops o (wOpsD P fi kd ops rest k) st

def tmpOf : Operand → List Nat
  | .tmp t => [t]
  | _ => []
/-- The slots that an operation looks at. -/
def reads (o : Oper) : List Nat := o.op.operands.toList.flatMap tmpOf
def looks (ops : List Oper) (o : Oper) : List Nat := reads o ++ match o.guard with
  | some (g, _) => ((ops[g]?).bind (·.dst)).toList
  | none => []
def floatsD (fi : FI) (o : Oper) : Bool := floats fi o.dst o.op || (isLen o.op).isSome || qOk fi o.dst o.op
/-- Does it leave the boxes as they are? -/
def calm (fi : FI) (kd : Bool) (o : Oper) : Bool := floatsD fi o || (kd && isCall o.op)

/-- x only reads, and y does not touch what x reads. -/
def apart1 (fi : FI) (kd : Bool) (ops : List Oper) (x y : Oper) : Bool :=
  floatsD fi x && (!loads x.op || calm fi kd y) && (looks ops x).all (fun t => floatsD fi y || !(reads y).elem t) &&
    (match x.dst with
      | some d => !(looks ops y).elem d && y.dst != some d
      | none => true) &&
    (match y.dst with
      | some d => !(looks ops x).elem d
      | none => true)

/-- What rests on slots alone, and changes no more. -/
def slotOp : Go.Op → Bool
  | .move _ => true
  | .assign _ => true
  | .build _ _ => true
  | .buildSlice _ _ _ => true
  | .call ⟨.builtin .append, _, _⟩ => true
  | _ => false
def apartD (ops : List Oper) (x y : Oper) : Bool :=
  slotOp x.op && x.guard.isNone && (looks ops x).all (fun t => !(looks ops y).elem t && y.dst != some t) &&
    (match x.dst with
      | some d => !(looks ops y).elem d && y.dst != some d
      | none => true)
/-- A load, and what makes a new box behind it. -/
def apartL (fi : FI) (x y : Oper) : Bool := match x.op, y.op, x.dst, y.dst with
  | .load _ p, .alloc _, some d, some e => x.guard.isNone && y.guard.isNone && !fi.takes (some d) && d != e && !(tmpOf p).elem e
  | _, _, _, _ => false
/-- A load that takes, and one that does not behind it. -/
def apartT (fi : FI) (x y : Oper) : Bool := match x.op, y.op, x.dst, y.dst with
  | .load _ p, .load _ q, some d, some e => x.guard.isNone && y.guard.isNone && fi.takes (some d) && !fi.takes (some e) && d != e && !(tmpOf q).elem d && !(tmpOf p).elem e
  | _, _, _, _ => false
def swapOk (fi : FI) (kd : Bool) (ops : List Oper) (x y : Oper) : Bool := apart1 fi kd ops x y || apart1 fi kd ops y x || apartD ops x y || apartD ops y x || apartL fi x y || apartT fi x y
/-- What an operation comes after, as bits: its edges, and what these come after. -/
def maskOf (acc : List Nat) (es : List Edge) : Nat := es.foldr (fun e m => if Region.binds .any e then (m ||| (2 ^ e.on)) ||| acc.getD e.on 0 else m) 0
def masks : List Oper → List Nat → List Nat
  | [], acc => acc
  | o :: os, acc => masks os (acc ++ [maskOf acc o.after.toList])
/-- All that no edges put in order may be exchanged. -/
def drawOk (fi : FI) (kd : Bool) (ops : List Oper) : Bool := (List.range ops.length).all fun i => match ops[i]? with
  | some o => o.after.toList.all (fun e => !Region.binds .any e || decide (e.on < i)) && (List.range i).all fun j =>
      ((masks ops []).getD i 0).testBit j || match ops[j]? with
        | some x => swapOk fi kd ops x o
        | none => true
  | none => true

/-- Behind a region that draws its order. -/
def drawE (k : St → Prop) (s : St) : Prop := (s.env.map (·.1)).Nodup ∧ (s.loc.map (·.1)).Nodup ∧ k s
/-- What needs no promise stays. -/
def keepS : List (Nat × AC) → List (Nat × AC)
  | [] => []
  | (j, v) :: r => if scalar v then (j, v) :: keepS r else keepS r
/-- Behind a region whose calls only looked at what slots alone hold. -/
def noK (K : List (List (List AC))) : List (List (List AC)) := K.map fun _ => []
def lentE (st : St) (env1 : List (Nat × AC)) (k : St → Prop) (s : St) : Prop := s.K = noK st.K ∧ backE st.env env1 s.env fun e => k { env := e, loc := keepS s.loc, K := st.K }
/-- Two operations that may come either way round: all else may be exchanged, and what may come ahead of both is plain. -/
def detOp : Go.Op → Bool
  | .move _ => true
  | .fieldAddr _ _ _ => true
  | _ => false
def drawOk2 (fi : FI) (kd : Bool) (p q : Nat) (ops : List Oper) : Bool := decide (p < q) && decide (q < ops.length) && (List.range ops.length).all fun i => match ops[i]? with
  | some o => o.after.toList.all (fun e => !Region.binds .any e || decide (e.on < i)) && ((List.range i).all fun j =>
      (i == q && j == p) || ((masks ops []).getD i 0).testBit j || match ops[j]? with
        | some x => swapOk fi kd ops x o
        | none => true) &&
      (i == p || i == q || ((masks ops []).getD i 0).testBit p || ((masks ops []).getD i 0).testBit q || (detOp o.op && o.guard.isNone)) &&
      (!(decide (p < i) && decide (i < q)) || ((masks ops []).getD q 0).testBit i)
  | none => true
/-- The order in which p comes behind q. -/
def ordB (p q : Nat) (idx : List Nat) : List Nat := idx.flatMap fun i => if i = p then [] else if i = q then [q, p] else [i]
def pure1 : AC → Bool
  | .bool _ => true
  | .int _ _ => true
  | .str _ => true
  | _ => false
/-- What its value alone tells. -/
def pureV : AC → Bool
  | .bool _ => true
  | .int _ _ => true
  | .str _ => true
  | .als _ _ _ _ => true
  | .ept _ _ _ => true
  | .agg cs => cs.all pure1
  | _ => false
/-- What its value tells beside what the slots of an environment hold. -/
def pureP (env : List (Nat × AC)) : AC → Bool
  | .ptr u i _ => env.any fun x => match x.2 with
    | .ptr u' i' _ => u' == u && i' == i
    | _ => false
  | v => pureV v
/-- All operations but the last yield one slot's value each, and the last comes behind all. -/
def tabOk (fi : FI) (keys : List Nat) (ops : List Oper) : Bool := decide (ops.length = keys.length + 1) && decide keys.Nodup && (List.range ops.length).all fun i => match ops[i]? with
  | some o => o.guard.isNone && o.after.toList.all (fun e => !Region.binds .any e || decide (e.on < i)) &&
      (List.range keys.length).all (fun j => !((reads o).elem (keys.getD j 0)) || ((masks ops []).getD i 0).testBit j) &&
      (if i < keys.length then o.dst == some (keys.getD i 0) && !(fi.isVar (keys.getD i 0)) else (List.range keys.length).all fun j => ((masks ops []).getD i 0).testBit j)
  | none => false
def tabSt (T : List (Nat × AC)) (o : Oper) (st : St) : St := { st with loc := T.filter fun x => (reads o).elem x.1 }
def wTab (P : Program) (fi : FI) (T : List (Nat × AC)) (st : St) (k : St → Prop) : List (Nat × AC) → List Oper → Prop
  | [], [o] => wDo P fi true none o.dst o.op (tabSt T o st) (putK fi o.dst k)
  | (_, v) :: l, o :: os => wDo P fi true none o.dst o.op (tabSt T o st) (fun u s => u = v ∧ s.env = st.env ∧ s.K = st.K) ∧ wTab P fi T st k l os
  | _, _ => False
/-- What an operation of a region does: it yields a slot's value, or it changes the boxes. -/
inductive Ent
  | val (d : Nat) (v : AC)
  | eff (g : List (List (List AC)) → List (List (List AC)))
def kdE : List Ent → (Nat → Bool) → Nat → List (List (List AC)) → List (List (List AC))
  | [], _, _, K => K
  | .val _ _ :: l, D, i, K => kdE l D (i + 1) K
  | .eff g :: l, D, i, K => kdE l D (i + 1) (if D i then g K else K)
def valsE : List Ent → List (Nat × AC)
  | [] => []
  | .val d v :: l => (d, v) :: valsE l
  | .eff _ :: l => valsE l
def keysE : List Ent → List (Option Nat)
  | [] => []
  | .val d _ :: l => some d :: keysE l
  | .eff _ :: l => none :: keysE l
def tabOk2 (fi : FI) (keys : List (Option Nat)) (ops : List Oper) : Bool := decide (ops.length = keys.length) && decide (keys.filterMap id).Nodup && (List.range ops.length).all fun i => match ops[i]? with
  | some o => o.guard.isNone && o.after.toList.all (fun e => !Region.binds .any e || decide (e.on < i)) &&
      (List.range keys.length).all (fun j => match keys.getD j none with
        | some d => !((reads o).elem d) || ((masks ops []).getD i 0).testBit j
        | none => true) &&
      (o.dst == keys.getD i none) && (match keys.getD i none with
        | some d => !(fi.isVar d)
        | none => true)
  | none => false
def wTab2 (P : Program) (fi : FI) (E : List Ent) (st : St) (k : St → Prop) : Nat → List Ent → List Oper → Prop
  | _, [], [] => k { st with loc := valsE E, K := kdE E (fun _ => true) 0 st.K }
  | i, e :: l, o :: os => (∀ D : Nat → Bool, D i = false → wDo P fi true none o.dst o.op { tabSt (valsE E) o st with K := kdE E D 0 st.K } (fun u s => (match e with
      | .val _ v => u = v
      | .eff _ => True) ∧ s.env = st.env ∧ s.K = kdE E (fun j => j == i || D j) 0 st.K)) ∧ wTab2 P fi E st k (i + 1) l os
  | _, _, _ => False
/-- A region: in the text's order, or in any. -/
def wRun (P : Program) (fi : FI) (ops : Array Oper) (d : Bool) (k : St → Prop) (st : St) : Prop :=
  (d = true → P.follows .mixedOrders = true ∧ ((∃ kd qs qr, drawOk { fi with es := false, bw := [], qs := qs } kd ops.toList = true ∧
      wOpsD P { fi with es := false, bw := [], qs := qs, qr := qr } kd ops.toList ops.toList (drawE k) st) ∨
      (∃ T : List (Nat × AC), tabOk fi (T.map (·.1)) ops.toList = true ∧ T.all (fun x => pureV x.2) = true ∧ wTab P fi T st k T ops.toList) ∨
      (∃ E : List Ent, tabOk2 fi (keysE E) ops.toList = true ∧ (valsE E).all (fun x => pureP st.env x.2) = true ∧ wTab2 P fi E st k 0 E ops.toList) ∨
      ∃ kd p q, drawOk2 { fi with es := false, bw := [], qs := [] } kd p q ops.toList = true ∧
        wOpsD P { fi with es := false, bw := [], qs := [], qr := [] } kd ops.toList ops.toList (drawE k) st ∧
        wOpsD P { fi with es := false, bw := [], qs := [], qr := [] } kd ops.toList ((ordB p q (List.range ops.size)).filterMap (ops[·]?)) (drawE k) st)) ∧
    (d = false → wOps P fi true ops.toList ops.toList k st)
/-- What stays when the promises are let go: of slots, of boxes. -/
def thawE : List (Nat × AC) → List (Nat × AC)
  | [] => []
  | (j, v) :: r => match v with
    | .bool b => (j, .bool b) :: thawE r
    | .int k n => (j, .int k n) :: thawE r
    | .str s => (j, .str s) :: thawE r
    | .ptr u i o => (j, .ptr u i o) :: thawE r
    | _ => thawE r
def thawC : AC → AC
  | .sl (.of e) n cs => if cs.all scalar then .sl (.ex e) n cs else .undef
  | .bool b => .bool b
  | .int k n => .int k n
  | .str s => .str s
  | _ => .undef
def thaw (st : St) : St := { env := thawE st.env, loc := [], K := st.K.map fun f => f.map fun c => c.map thawC }
def noOwn : AC → Bool
  | .sl .no _ _ => true
  | .bool _ => true
  | .int _ _ => true
  | .str _ => true
  | _ => false
/-- What slots hold of a box goes back into it. -/
def givesOk : List AC → List AC → List Value → Prop
  | [], [], [] => True
  | .als _ none x none :: cells, _ :: cs, z :: zs => z = x ∧ givesOk cells cs zs
  | _ :: cells, _ :: cs, _ :: zs => givesOk cells cs zs
  | _, _, _ => False
def giveC : List AC → List AC → List AC
  | .als _ none _ none :: cells, c :: cs => c :: giveC cells cs
  | x :: cells, _ :: cs => x :: giveC cells cs
  | _, _ => []
def gbE (d i : Nat) (k : St → Prop) (s : St) : Prop :=
  match s.get d, getBox s.K 0 i with
  | .nam y (.agg cs), some cells => ∃ zs : List Value, y = .agg zs.toArray ∧ givesOk cells cs zs ∧ k { s.setAt d .undef with K := setBox s.K 0 i (giveC cells cs) }
  | _, _ => False
def gbK (fi : FI) (id : Nat) (k : St → Prop) : St → Prop :=
  match fi.gb.lookup id with
  | some (d, i) => gbE d i k
  | none => k
def wRegion (P : Program) (fi : FI) (id : Nat) (ops : Array Oper) (d : Bool) (k : St → Prop) (st : St) : Prop :=
  if fi.th.elem id then st.K.length = 1 ∧ wRun P fi ops d k (thaw st)
  else if fi.xr.elem id then nameX st.K st.env fun env1 =>
      wRun P { fi with es := false, bw := [] } ops d (lentE st env1 k) { env := env1, loc := [], K := noK st.K }
  else if fi.es then nameE st.env fun env1 => wRun P fi ops d (gbK fi id k) { env := env1, loc := [], K := st.K }
  else wRun P fi ops d k { st with loc := [] }

/-- What a slot alone holds stays as it is from here on. -/
def St.frz (z : Option Nat) (st : St) : St := match z with
  | none => st
  | some k => match st.get k with
    | .nam _ (.sl (.ex e) n cs) => st.setAt k (.sl (.of e) n cs)
    | .sl (.ex e) n cs => st.setAt k (.sl (.of e) n cs)
    | _ => st

def wC (P : Program) (fi : FI) : Code → (Exit → St → Prop) → St → Prop
  | .skip, Q, st => Q .normal st
  | .region id ops d, Q, st => wRegion P fi id ops d (Q .normal) st
  | .seq a b, Q, st => wC P fi a (seqK (wC P fi b Q) Q) st
  | .cond c a b, Q, st => match st.ev c with
    | .bool v => (v = true → wC P fi a Q st) ∧ (v = false → wC P fi b Q st)
    | _ => False
  | .block id c, Q, st => wC P fi c (blockK id Q) st
  | .loop c, Q, st => ∃ (I : Nat → St → Prop) (n : Nat) (s0 : St) (z : Option Nat), (st.frz z).le s0 ∧ I n s0 ∧ ∀ n s, I n s → wC P fi c (seqK (roundK I n (s.K.headD []).length) Q) s
  | .exit id, Q, st => Q (.exit id) st
  | .ret, Q, st => Q .ret st
  | .rangeFunc .., _, _ => False
  | .scope _, _, _ => False
  | .label _, _, _ => False
  | .goto _, _, _ => False
  | .refuse _, _, _ => False

/-! Entry and exit of a function. -/
def argEnv (k : Nat) : List AC → List (Nat × AC)
  | [] => []
  | v :: vs => (k, mapV (liftP 1) v) :: argEnv (k + 1) vs

def low1 : AC → Option AC
  | .agg cs => (cs.mapM (lowC 1)).map .agg
  | .nam _ (.agg cs) => (cs.mapM (lowC 1)).map .agg
  | v => lowC 1 v

/-- One result, and the state behind its reading. -/
def resStep (P : Program) (st : St) : ResultVar → Option (AC × St)
  | .tmp t => some (st.get t, st.weak t)
  | .cell a t => match st.get a, tdOf P t with
    | _, .bad => none
    | .ptr 0 i 0, _ => match getBox st.K 0 i with
      | some cells => if cells.length = P.cellsOf t ∧ 0 < P.cellsOf t then some (mkVal P t cells, { st with K := setBox st.K 0 i (shareL cells) }) else none
      | none => none
    | _, _ => none

def resVs (P : Program) : St → List ResultVar → Option (List AC × St)
  | st, [] => some ([], st)
  | st, x :: xs => match resStep P st x with
    | some (v, st') => match resVs P st' xs with
      | some (vs, st'') => some (v :: vs, st'')
      | none => none
    | none => none

def lows : List AC → Option (List AC)
  | [] => some []
  | v :: vs => match low1 v, lows vs with
    | some v, some vs => some (v :: vs)
    | _, _ => none

/-- What the function hands back at a state is r, over the boxes K'. -/
def retOk (P : Program) (rs : List ResultVar) (st : St) (r : AC) (K' : List (List (List AC))) : Prop :=
  match resVs P st rs with
  | some (vs, st') => st'.K.tail = K' ∧ match lows vs with
    | some [v] => AC.le v r
    | some vs => ∃ ws, r = .tup ws ∧ AC.leL vs ws
    | none => False
  | none => False

/-- The same of a function that writes what slot 0 alone holds, under the name y. -/
def retB (P : Program) (rs : List ResultVar) (y : Value) (r : AC) (K' : List (List (List AC))) (back : AC) (st : St) : Prop :=
  match resVs P st rs with
  | some (vs, st') => st'.K.tail = K' ∧ (match lows vs with
    | some [v] => AC.le v r
    | some vs => ∃ ws, r = .tup ws ∧ AC.leL vs ws
    | none => False) ∧ match look 0 st'.env with
      | some (.nam y' v) => y' = y ∧ match low1 v with
        | some v' => AC.le v' back
        | none => False
      | _ => False
  | none => False
def retQB (P : Program) (rs : List ResultVar) (y : Value) (r : AC) (K' : List (List (List AC))) (back : AC) : Exit → St → Prop
  | .normal, st => retB P rs y r K' back st
  | .ret, st => retB P rs y r K' back st
  | _, _ => False

def retQ (P : Program) (rs : List ResultVar) (r : AC) (K' : List (List (List AC))) : Exit → St → Prop
  | .normal, st => retOk P rs st r K'
  | .ret, st => retOk P rs st r K'
  | _, _ => False

section
variable {P : Program} {fi : FI} {Q : Exit → St → Prop} {st : St}
theorem wDo_move {m : Bool} {gd : Option Bool} {dst : Option Nat} {x : Operand} {k : AC → St → Prop} : wDo P fi m gd dst (.move x) st k = wD_move P fi m gd dst x st k := rfl
theorem wDo_assign {m : Bool} {gd : Option Bool} {dst : Option Nat} {x : Operand} {k : AC → St → Prop} : wDo P fi m gd dst (.assign x) st k = wD_assign P fi m gd dst x st k := rfl
theorem wDo_pick {m : Bool} {gd : Option Bool} {dst : Option Nat} {c a b : Operand} {k : AC → St → Prop} : wDo P fi m gd dst (.pick c a b) st k = wD_pick P fi m gd dst c a b st k := rfl
theorem wDo_alloc {m : Bool} {gd : Option Bool} {dst : Option Nat} {t : TypeId} {k : AC → St → Prop} : wDo P fi m gd dst (.alloc t) st k = wD_alloc P fi m gd dst t st k := rfl
theorem wDo_box {m : Bool} {gd : Option Bool} {dst : Option Nat} {t : TypeId} {x : Operand} {k : AC → St → Prop} : wDo P fi m gd dst (.box t x) st k = wD_box P fi m gd dst t x st k := rfl
theorem wDo_build {m : Bool} {gd : Option Bool} {dst : Option Nat} {t : TypeId} {parts : Array (Nat × Operand)} {k : AC → St → Prop} : wDo P fi m gd dst (.build t parts) st k = wD_build P fi m gd dst t parts st k := rfl
theorem wDo_buildSlice {m : Bool} {gd : Option Bool} {dst : Option Nat} {t : TypeId} {len : Nat} {parts : Array (Nat × Operand)} {k : AC → St → Prop} : wDo P fi m gd dst (.buildSlice t len parts) st k = wD_buildSlice P fi m gd dst t len parts st k := rfl
theorem wDo_load {m : Bool} {gd : Option Bool} {dst : Option Nat} {t : TypeId} {x : Operand} {k : AC → St → Prop} : wDo P fi m gd dst (.load t x) st k = wD_load P fi m gd dst t x st k := rfl
theorem wDo_store {m : Bool} {gd : Option Bool} {dst : Option Nat} {t : TypeId} {a x : Operand} {k : AC → St → Prop} : wDo P fi m gd dst (.store t a x) st k = wD_store P fi m gd dst t a x st k := rfl
theorem wDo_nilCheck {m : Bool} {gd : Option Bool} {dst : Option Nat} {x : Operand} {k : AC → St → Prop} : wDo P fi m gd dst (.nilCheck x) st k = wD_nilCheck P fi m gd dst x st k := rfl
theorem wDo_binOp {m : Bool} {gd : Option Bool} {dst : Option Nat} {op : BinOp} {t : TypeId} {x y : Operand} {t' : TypeId} {k : AC → St → Prop} : wDo P fi m gd dst (.binOp op t x y t') st k = wD_binOp P fi m gd dst op t x y t' st k := rfl
theorem wDo_unOp {m : Bool} {gd : Option Bool} {dst : Option Nat} {op : UnOp} {t : TypeId} {x : Operand} {k : AC → St → Prop} : wDo P fi m gd dst (.unOp op t x) st k = wD_unOp P fi m gd dst op t x st k := rfl
theorem wDo_convert {m : Bool} {gd : Option Bool} {dst : Option Nat} {src tgt : TypeId} {x : Operand} {k : AC → St → Prop} : wDo P fi m gd dst (.convert src tgt x) st k = wD_convert P fi m gd dst src tgt x st k := rfl
theorem wDo_makeFunc {m : Bool} {gd : Option Bool} {dst : Option Nat} {f : FuncId} {first captured : Array Operand} {k : AC → St → Prop} : wDo P fi m gd dst (.makeFunc (.func f) first captured) st k = wD_makeFunc P fi m gd dst f first captured st k := rfl
theorem wDo_makeSlice {m : Bool} {gd : Option Bool} {dst : Option Nat} {t : TypeId} {len cap : Operand} {k : AC → St → Prop} : wDo P fi m gd dst (.makeSlice t len cap) st k = wD_makeSlice P fi m gd dst t len cap st k := rfl
theorem wDo_slice {m : Bool} {gd : Option Bool} {dst : Option Nat} {t : TypeId} {x : Operand} {lo hi mx : Option Operand} {k : AC → St → Prop} : wDo P fi m gd dst (.slice t x lo hi mx) st k = wD_slice P fi m gd dst t x lo hi mx st k := rfl
theorem wDo_fieldAddr {m : Bool} {gd : Option Bool} {dst : Option Nat} {s : TypeId} {x : Operand} {f : Nat} {k : AC → St → Prop} : wDo P fi m gd dst (.fieldAddr s x f) st k = wD_fieldAddr P fi m gd dst s x f st k := rfl
theorem wDo_field {m : Bool} {gd : Option Bool} {dst : Option Nat} {s : TypeId} {x : Operand} {f : Nat} {k : AC → St → Prop} : wDo P fi m gd dst (.field s x f) st k = wD_field P fi m gd dst s x f st k := rfl
theorem wDo_indexAddr {m : Bool} {gd : Option Bool} {dst : Option Nat} {t : TypeId} {x ix : Operand} {k : AC → St → Prop} : wDo P fi m gd dst (.indexAddr t x ix) st k = wD_indexAddr P fi m gd dst t x ix st k := rfl
theorem wDo_index {m : Bool} {gd : Option Bool} {dst : Option Nat} {t : TypeId} {x ix : Operand} {k : AC → St → Prop} : wDo P fi m gd dst (.index t x ix) st k = wD_index P fi m gd dst t x ix st k := rfl
theorem wDo_extract {m : Bool} {gd : Option Bool} {dst : Option Nat} {x : Operand} {i : Nat} {k : AC → St → Prop} : wDo P fi m gd dst (.extract x i) st k = wD_extract P fi m gd dst x i st k := rfl
theorem wDo_call {m : Bool} {gd : Option Bool} {dst : Option Nat} {c : Call} {k : AC → St → Prop} : wDo P fi m gd dst (.call c) st k = wD_call P fi m gd dst c st k := rfl
theorem wOp_none {m : Bool} {ops : List Oper} {k : St → Prop} {dst : Option Nat} {op : Go.Op} {ty : TypeId} {pos : String} {after : Array Edge} :
    wOp P fi m ops { dst := dst, op := op, type := ty, pos := pos, after := after, guard := none } k st = wDo P fi m none dst op st (putK fi dst k) := rfl
theorem wOp_some {m : Bool} {ops : List Oper} {k : St → Prop} {dst : Option Nat} {op : Go.Op} {ty : TypeId} {pos : String} {after : Array Edge} {g : Nat} {want b : Bool} (h : gVal st ops g want = some b) :
    wOp P fi m ops { dst := dst, op := op, type := ty, pos := pos, after := after, guard := some (g, want) } k st = wDo P fi false (some b) dst op st (optK fi dst b k) := by simp only [wOp, h]
theorem wC_skip : wC P fi .skip Q st = Q .normal st := rfl
theorem wRun_false {ops : Array Oper} {k : St → Prop} : wRun P fi ops false k st = wOps P fi true ops.toList ops.toList k st := by simp [wRun]
theorem wC_region {id : Nat} {ops : Array Oper} {d : Bool} : wC P fi (.region id ops d) Q st = wRegion P fi id ops d (Q .normal) st := rfl
theorem wC_seq {a b : Code} : wC P fi (.seq a b) Q st = wC P fi a (seqK (wC P fi b Q) Q) st := rfl
theorem wC_cond {c : Operand} {a b : Code} {v : Bool} (h : st.ev c = .bool v) : wC P fi (.cond c a b) Q st = ((v = true → wC P fi a Q st) ∧ (v = false → wC P fi b Q st)) := by simp only [wC, h]
theorem wC_block {id : Nat} {c : Code} : wC P fi (.block id c) Q st = wC P fi c (blockK id Q) st := rfl
theorem wC_exit {id : Nat} : wC P fi (.exit id) Q st = Q (.exit id) st := rfl
theorem wC_ret : wC P fi .ret Q st = Q .ret st := rfl
theorem wOps_nil {m : Bool} {ops : List Oper} {k : St → Prop} : wOps P fi m ops [] k st = k st := rfl
theorem wOps_cons {m : Bool} {ops rest : List Oper} {o : Oper} {k : St → Prop} : wOps P fi m ops (o :: rest) k st = wOp P fi m ops o (wOps P fi m ops rest k) st := rfl
theorem seqK_normal {k : St → Prop} : seqK k Q .normal = k := rfl
theorem seqK_ret {k : St → Prop} : seqK k Q .ret = Q .ret := rfl
theorem seqK_exit {k : St → Prop} {id : Nat} : seqK k Q (.exit id) = Q (.exit id) := rfl
theorem blockK_normal {id : Nat} : blockK id Q .normal = Q .normal := rfl
theorem blockK_ret {id : Nat} : blockK id Q .ret = Q .ret := rfl
theorem blockK_exit {id i : Nat} : blockK id Q (.exit i) = if i = id then Q .normal else Q (.exit i) := rfl
theorem callK_of {gd : Option Bool} {f : FuncId} {args : List AC} {k : AC → St → Prop} {r : AC} {K' : List (List (List AC))} (h : Ct P f args st.K r K') (hk : k r { st with K := K' }) :
    callK P true gd f args k st := ⟨r, K', h, hk⟩
theorem callK_still {gd : Option Bool} {f : FuncId} {args : List AC} {k : AC → St → Prop} {r : AC} (h : gOk gd → Ct P f args st.K r st.K) (hk : k r st) :
    callK P false gd f args k st := ⟨r, h, hk⟩
attribute [simp] gbK gbE givesOk giveC ownC alsC namC alsB wBoxN thawE thawC thaw unN lendV noK isNilC nilCmp wC_skip wC_region wRegion wRun_false isX cellX scalar lendS lendL closed closedL toEx toExL unx unxL shareO lenOf Ow.isEx appOw wBorrow St.setAt FI.keeps wC_seq wC_block wC_exit wC_ret wOps_nil wOps_cons seqK_normal seqK_ret seqK_exit blockK_normal blockK_ret blockK_exit putK optK wOp_none
  wDo_move wDo_assign wDo_pick wDo_alloc wDo_box wDo_build wDo_buildSlice wDo_load wDo_store wDo_nilCheck wDo_binOp wDo_unOp wDo_convert wDo_makeFunc wDo_makeSlice wDo_slice wDo_fieldAddr wDo_field wDo_indexAddr wDo_index wDo_extract wDo_call
  wD_move wD_assign wD_pick wD_alloc wD_box wD_build wD_buildSlice wD_load wKeep wD_store wD_nilCheck wD_binOp wD_unOp wD_convert wD_makeFunc wD_makeSlice wD_slice wD_fieldAddr wD_field wD_indexAddr wD_index wD_extract wD_call
  wCall wBuiltin wLen wAppend wAppendS zeroLen wT un argEnv mapC mapV liftP St.ev St.get St.put St.weak look setE FI.isVar FI.takes wBin intBin strBin ofV share shareL gOk cellsOfV getBox setBox mkVal goodTy isUndef storable flat putCells lowC lowP fillC isPtr
end

end Go.Proofs.YtkefgpmnimpcdaaGreatDoor.Abs
/- What an abstract value says of a value stays true where the world changes elsewhere; a share of it; a pointer seen from another frame. No condition. -/
set_option linter.unusedVariables false
namespace Go.Proofs.YtkefgpmnimpcdaaGreatDoor.Abs
open Go
section
variable {P : Program} {w w' : World} {Pr Pr' : Addr → Prop}

theorem shareL_eq (cs : List AC) : shareL cs = cs.map share := by
  induction cs with
  | nil => simp [shareL]
  | cons c cs ih => simp [shareL, ih]

theorem Reps.length {bl cs vs L} (h : Reps P w Pr bl cs vs L) : cs.length = vs.length := by
  induction cs generalizing vs L with
  | nil => cases h; rfl
  | cons c cs ih => cases h with | cons h1 h2 => simp [ih h2]

theorem Reps.append {bl a vs L b us M} (h : Reps P w Pr bl a vs L) (g : Reps P w Pr bl b us M) : Reps P w Pr bl (a ++ b) (vs ++ us) (L ++ M) := by
  induction a generalizing vs L with
  | nil => cases h; simpa using g
  | cons c cs ih => cases h with | cons h1 h2 => simpa [List.append_assoc] using Reps.cons h1 (ih h2)

theorem Reps.split {bl a b vs L} (h : Reps P w Pr bl (a ++ b) vs L) : ∃ v1 v2 L1 L2, vs = v1 ++ v2 ∧ L = L1 ++ L2 ∧ v1.length = a.length ∧ Reps P w Pr bl a v1 L1 ∧ Reps P w Pr bl b v2 L2 := by
  induction a generalizing vs L with
  | nil => exact ⟨[], vs, [], L, rfl, rfl, rfl, .nil, h⟩
  | cons c cs ih =>
    cases h with
    | cons h1 h2 =>
      rename_i v vs' L1 M
      obtain ⟨v1, v2, M1, M2, rfl, rfl, hl, g1, g2⟩ := ih h2
      exact ⟨v :: v1, v2, L1 ++ M1, M2, rfl, by simp, by simp [hl], .cons h1 g1, g2⟩

theorem Reps.get {bl cs vs L} (h : Reps P w Pr bl cs vs L) {i : Nat} {c : AC} (hc : cs[i]? = some c) :
    ∃ v Li, vs[i]? = some v ∧ Rep P w Pr bl c v Li ∧ ∀ x, Li.count x ≤ L.count x := by
  induction cs generalizing vs L i with
  | nil => simp at hc
  | cons a cs ih =>
    cases h with
    | cons h1 h2 =>
      cases i with
      | zero =>
        simp only [List.getElem?_cons_zero, Option.some.injEq] at hc; subst hc
        exact ⟨_, _, rfl, h1, fun x => by simp⟩
      | succ i =>
        simp only [List.getElem?_cons_succ] at hc
        obtain ⟨v, Li, hv, hr, hle⟩ := ih h2 hc
        exact ⟨v, Li, by simpa using hv, hr, fun x => by have := hle x; simp only [List.count_append]; omega⟩

/-- Where the world changes elsewhere. -/
structure Kept (w : World) (Pr : Addr → Prop) (w' : World) (Pr' : Addr → Prop) (g : Nat) : Prop where
  heap : w'.heap[g]? = w.heap[g]?
  pr : ∀ a, Pr' a → a.block = g → Pr a

mutual
theorem Rep.kept (hp : ∀ a, Pr a → Pr' a ∧ w'.cell? a = w.cell? a) : ∀ {bl c v L}, Rep P w Pr bl c v L → (∀ g ∈ L, Kept w Pr w' Pr' g) → Rep P w' Pr' bl c v L
  | _, _, _, _, .bool, _ => .bool
  | _, _, _, _, .int, _ => .int
  | _, _, _, _, .str h h', _ => .str h h'
  | _, _, _, _, .slNo h1 h2 h3 h4 h5, _ => .slNo (Reps.kept hp h1 (fun g hg => by cases hg)) h2 (fun j u hu => ⟨(hp _ (h3 j u hu).1).1, ((hp _ (h3 j u hu).1).2).trans (h3 j u hu).2⟩) h4 h5
  | _, _, _, _, .slNil, _ => .slNil
  | _, _, _, _, .slOf h1 h2 h3 h4 h5 h6 h7 h8 h9 h10, hk =>
    .slOf (Reps.kept hp h1 (fun g hg => hk g (List.mem_cons_of_mem _ hg))) h2 (((hk _ List.mem_cons_self).heap).trans h3) h4 h5 h6 h7 h8
      (fun a ha hb => h9 a ((hk _ List.mem_cons_self).pr a ha hb) hb) (fun j hj => (hp _ (h10 j hj)).1)
  | _, _, _, _, .slEx h1 h2 h3 h4 h5 h6 h7 h8 h9, hk =>
    .slEx (Reps.kept hp h1 (fun g hg => hk g (List.mem_cons_of_mem _ hg))) h2 (((hk _ List.mem_cons_self).heap).trans h3) h4 h5 h6 h7 h8
      (fun a ha hb => h9 a ((hk _ List.mem_cons_self).pr a ha hb) hb)
  | _, _, _, _, .nam h, hk => .nam (Rep.kept hp h hk)
  | _, _, _, _, .ept, _ => .ept
  | _, _, _, _, .als h1 h2, _ => .als h1 h2
  | _, _, _, _, .alsA, _ => .alsA
  | _, _, _, _, .agg h1 h2, hk => .agg (Reps.kept hp h1 hk) h2
  | _, _, _, _, .tup h1, hk => .tup (Reps.kept hp h1 hk)
  | _, _, _, _, .ptr h, _ => .ptr h
  | _, _, _, _, .ref h1 h2 h3, _ => .ref (Reps.kept hp h1 (fun g hg => by cases hg)) h2 (fun j u hu => ⟨(hp _ (h3 j u hu).1).1, ((hp _ (h3 j u hu).1).2).trans (h3 j u hu).2⟩)
  | _, _, _, _, .fn h0 h, _ => .fn h0 (Reps.kept hp h (fun g hg => by cases hg))
  | _, _, _, _, .optT h, hk => .optT (Rep.kept hp h hk)
  | _, _, _, _, .optF, _ => .optF
  | _, _, _, _, .undef, _ => .undef
theorem Reps.kept (hp : ∀ a, Pr a → Pr' a ∧ w'.cell? a = w.cell? a) : ∀ {bl cs vs L}, Reps P w Pr bl cs vs L → (∀ g ∈ L, Kept w Pr w' Pr' g) → Reps P w' Pr' bl cs vs L
  | _, _, _, _, .nil, _ => .nil
  | _, _, _, _, .cons h1 h2, hk => .cons (Rep.kept hp h1 (fun g hg => hk g (List.mem_append_left _ hg))) (Reps.kept hp h2 (fun g hg => hk g (List.mem_append_right _ hg)))
end

mutual
theorem Rep.share : ∀ {bl c v L}, Rep P w Pr bl c v L → Rep P w Pr bl (share c) v []
  | _, _, _, _, .bool => by simpa [Abs.share] using Rep.bool
  | _, _, _, _, .int => by simpa [Abs.share] using Rep.int
  | _, _, _, _, .str h h' => by simpa [Abs.share] using Rep.str h h'
  | _, _, _, _, .slNo h1 h2 h3 h4 h5 => by
    simp only [Abs.share]
    exact .slNo h1 h2 h3 h4 h5
  | _, _, _, _, .slNil (o := o) => by cases o <;> simp only [Abs.share, shareL] <;> first | exact .slNil | exact .undef
  | _, _, _, _, .slEx .. => by simp only [Abs.share]; exact .undef
  | _, _, _, _, .nam h => by simp only [Abs.share]; exact Rep.share h
  | _, _, _, _, .ept => by simp only [Abs.share]; exact .ept
  | _, _, _, _, .als h1 h2 => by simp only [Abs.share]; exact .als h1 h2
  | _, _, _, _, .alsA => by simp only [Abs.share]; exact .alsA
  | _, _, _, _, .slOf (g := g) (cur := cur) h1 h2 h3 h4 h5 h6 h7 h8 h9 h10 => by
    simp only [Abs.share]
    refine .slNo (Reps.share h1) h2 (fun j u hu => ?_) h4 h5
    have hadd : (⟨g, 0, none⟩ : Addr).add j = ⟨g, j, none⟩ := by rw [Addr.add_lit]; simp
    rw [hadd, cell_of_row w _ j cur _ _ h3]
    rw [← h8, List.getElem?_take] at hu
    split at hu
    · rename_i hlt
      exact ⟨h10 j hlt, by simpa using hu⟩
    · cases hu
  | _, _, _, _, .agg h1 h2 => by simp only [Abs.share]; exact .agg (Reps.share h1) h2
  | _, _, _, _, .tup h1 => by simp only [Abs.share]; exact .tup (Reps.share h1)
  | _, _, _, _, .ptr h => by simp only [Abs.share]; exact .ptr h
  | _, _, _, _, .ref h1 h2 h3 => by simp only [Abs.share]; exact .ref h1 h2 h3
  | _, _, _, _, .fn h0 h => by simp only [Abs.share]; exact .fn h0 h
  | _, _, _, _, .optT h => by simp only [Abs.share]; exact .optT (Rep.share h)
  | _, _, _, _, .optF => by simp only [Abs.share]; exact .optF
  | _, _, _, _, .undef => by simp only [Abs.share]; exact .undef
theorem Reps.share : ∀ {bl cs vs L}, Reps P w Pr bl cs vs L → Reps P w Pr bl (shareL cs) vs []
  | _, _, _, _, .nil => by simp only [shareL]; exact .nil
  | _, _, _, _, .cons h1 h2 => by simp only [shareL]; simpa using Reps.cons (Rep.share h1) (Reps.share h2)
end

mutual
theorem Rep.own_lt : ∀ {bl c v L}, Rep P w Pr bl c v L → ∀ g ∈ L, g < w.heap.size
  | _, _, _, _, .bool, g, hg => by cases hg
  | _, _, _, _, .int, g, hg => by cases hg
  | _, _, _, _, .str .., g, hg => by cases hg
  | _, _, _, _, .slNo .., g, hg => by cases hg
  | _, _, _, _, .slNil, g, hg => by cases hg
  | _, _, _, _, .slOf h1 h2 h3 _ _ _ _ _ _ _, g, hg => by
    rcases List.mem_cons.1 hg with rfl | hg
    · exact (Array.getElem?_eq_some_iff.1 h3).1
    · exact Reps.own_lt h1 g hg
  | _, _, _, _, .slEx h1 h2 h3 _ _ _ _ _ _, g, hg => by
    rcases List.mem_cons.1 hg with rfl | hg
    · exact (Array.getElem?_eq_some_iff.1 h3).1
    · exact Reps.own_lt h1 g hg
  | _, _, _, _, .nam h, g, hg => Rep.own_lt h g hg
  | _, _, _, _, .ept, g, hg => by cases hg
  | _, _, _, _, .als .., g, hg => by cases hg
  | _, _, _, _, .alsA, g, hg => by cases hg
  | _, _, _, _, .agg h1 _, g, hg => Reps.own_lt h1 g hg
  | _, _, _, _, .tup h1, g, hg => Reps.own_lt h1 g hg
  | _, _, _, _, .ptr _, g, hg => by cases hg
  | _, _, _, _, .ref .., g, hg => by cases hg
  | _, _, _, _, .fn .., g, hg => by cases hg
  | _, _, _, _, .optT h, g, hg => Rep.own_lt h g hg
  | _, _, _, _, .optF, g, hg => by cases hg
  | _, _, _, _, .undef, g, hg => by cases hg
theorem Reps.own_lt : ∀ {bl cs vs L}, Reps P w Pr bl cs vs L → ∀ g ∈ L, g < w.heap.size
  | _, _, _, _, .nil, g, hg => by cases hg
  | _, _, _, _, .cons h1 h2, g, hg => by
    rcases List.mem_append.1 hg with hg | hg
    · exact Rep.own_lt h1 g hg
    · exact Reps.own_lt h2 g hg
end

/-- A map of the pointers under which everything else stays. -/
structure Moves (bl bl' : List (List Nat)) (f : AC → AC) : Prop where
  ptr : ∀ u i o g, (bl[u]?).bind (·[i]?) = some g → f (.ptr u i o) = .undef ∨ ∃ u' i', f (.ptr u i o) = .ptr u' i' o ∧ (bl'[u']?).bind (·[i']?) = some g
  rest : ∀ c, (∀ u i o, c ≠ .ptr u i o) → f c = c

theorem Reps.nil_split {bl c cs v vs} (h : Reps P w Pr bl (c :: cs) (v :: vs) []) : Rep P w Pr bl c v [] ∧ Reps P w Pr bl cs vs [] := by
  generalize hL : ([] : List Nat) = L at h
  cases h with
  | cons h1 h2 =>
    obtain ⟨e1, e2⟩ := List.append_eq_nil_iff.1 hL.symm
    subst e1; subst e2
    exact ⟨h1, h2⟩

theorem Moves.cap {bl bl' : List (List Nat)} {f : AC → AC} (hm : Moves bl bl' f) {c v} (hc : isPtr c = true) (h : Rep P w Pr bl c v []) :
    Rep P w Pr bl' (f c) v [] ∧ isPtr (f c) = true := by
  cases c <;> simp only [isPtr, Bool.false_eq_true] at hc
  · cases h with
    | ptr hg =>
      rcases hm.ptr _ _ _ _ hg with e | ⟨u', i', e, hg'⟩
      · rw [e]; exact ⟨.undef, rfl⟩
      · rw [e]; exact ⟨.ptr hg', rfl⟩
  · rw [hm.rest .undef (by simp)]; exact ⟨.undef, rfl⟩

theorem Moves.caps {bl bl' : List (List Nat)} {f : AC → AC} (hm : Moves bl bl' f) {caps : List AC} (hp : ∀ c ∈ caps, isPtr c = true) :
    ∀ {vs}, Reps P w Pr bl caps vs [] → Reps P w Pr bl' (caps.map f) vs [] ∧ ∀ c ∈ caps.map f, isPtr c = true := by
  induction caps with
  | nil => intro vs h; cases h; exact ⟨.nil, by simp⟩
  | cons c cs ih =>
    intro vs h
    cases vs with
    | nil => cases h
    | cons v vs =>
      obtain ⟨h1, h2⟩ := Reps.nil_split h
      obtain ⟨g1, g2⟩ := ih (fun c hc => hp c (List.mem_cons_of_mem _ hc)) h2
      obtain ⟨k1, k2⟩ := hm.cap (hp c List.mem_cons_self) h1
      refine ⟨Reps.cons (L := []) (M := []) k1 g1, ?_⟩
      intro d hd
      rw [List.map_cons] at hd
      rcases List.mem_cons.1 hd with rfl | hd
      · exact k2
      · exact g2 d hd

/-- 'f' moves the pointers from the boxes bl to the boxes bl'. -/
theorem Rep.mapC {bl bl' : List (List Nat)} {f : AC → AC} (hm : Moves bl bl' f) {c v L} (h : Rep P w Pr bl c v L) :
    ∃ L', Rep P w Pr bl' (Abs.mapC f c) v L' ∧ (∀ x, L'.count x ≤ L.count x) := by
  cases h with
  | bool => exact ⟨[], .bool, fun x => by simp⟩
  | int => exact ⟨[], .int, fun x => by simp⟩
  | str h h' => exact ⟨[], .str h h', fun x => by simp⟩
  | slNo h1 h2 h3 h4 h5 => exact ⟨[], .slNo h1 h2 h3 h4 h5, fun x => by simp⟩
  | slNil => exact ⟨[], .slNil, fun x => by simp⟩
  | slOf h1 h2 h3 h4 h5 h6 h7 h8 h9 h10 => exact ⟨_, .slOf h1 h2 h3 h4 h5 h6 h7 h8 h9 h10, fun x => Nat.le_refl _⟩
  | slEx h1 h2 h3 h4 h5 h6 h7 h8 h9 => exact ⟨_, .slEx h1 h2 h3 h4 h5 h6 h7 h8 h9, fun x => Nat.le_refl _⟩
  | nam h =>
    rename_i v
    cases v with
    | sl o n cs =>
      cases h with
      | slNo h1 h2 h3 h4 h5 => exact ⟨[], .nam (.slNo h1 h2 h3 h4 h5), fun x => by simp⟩
      | slNil => exact ⟨[], .nam .slNil, fun x => by simp⟩
      | slOf h1 h2 h3 h4 h5 h6 h7 h8 h9 h10 => exact ⟨_, .nam (.slOf h1 h2 h3 h4 h5 h6 h7 h8 h9 h10), fun x => Nat.le_refl _⟩
      | slEx h1 h2 h3 h4 h5 h6 h7 h8 h9 => exact ⟨_, .nam (.slEx h1 h2 h3 h4 h5 h6 h7 h8 h9), fun x => Nat.le_refl _⟩
    | _ => exact ⟨[], .undef, fun x => by simp⟩
  | ept => exact ⟨[], .ept, fun x => by simp⟩
  | als h1 h2 => exact ⟨[], .als h1 h2, fun x => by simp⟩
  | alsA => exact ⟨[], .alsA, fun x => by simp⟩
  | agg h1 h2 => exact ⟨[], .undef, fun x => by simp⟩
  | tup h1 => exact ⟨[], .undef, fun x => by simp⟩
  | ptr hg =>
    rename_i u i o g
    rcases hm.ptr u i o g hg with e | ⟨u', i', e, hg'⟩
    · exact ⟨[], by simp only [Abs.mapC, e]; exact .undef, fun x => by simp⟩
    · exact ⟨[], by simp only [Abs.mapC, e]; exact .ptr hg', fun x => by simp⟩
  | ref h1 h2 h3 => exact ⟨[], .ref h1 h2 h3, fun x => by simp⟩
  | fn h0 h1 =>
    obtain ⟨g1, g2⟩ := hm.caps h0 h1
    exact ⟨[], .fn g2 g1, fun x => by simp⟩
  | optT h => exact ⟨[], .undef, fun x => by simp⟩
  | optF => exact ⟨[], .undef, fun x => by simp⟩
  | undef => exact ⟨[], .undef, fun x => by simp⟩

theorem Reps.mapC {bl bl' : List (List Nat)} {f : AC → AC} (hm : Moves bl bl' f) {cs vs L} (h : Reps P w Pr bl cs vs L) :
    ∃ L', Reps P w Pr bl' (cs.map (Abs.mapC f)) vs L' ∧ (∀ x, L'.count x ≤ L.count x) := by
  induction cs generalizing vs L with
  | nil => cases h; exact ⟨[], .nil, fun x => by simp⟩
  | cons c cs ih =>
    cases h with
    | cons h1 h2 =>
      obtain ⟨L1, g1, c1⟩ := Rep.mapC hm h1
      obtain ⟨L2, g2, c2⟩ := ih h2
      exact ⟨L1 ++ L2, .cons g1 g2, fun x => by have := c1 x; have := c2 x; simp only [List.count_append]; omega⟩

theorem Rep.mapV {bl bl' : List (List Nat)} {f : AC → AC} (hm : Moves bl bl' f) {c v L} (h : Rep P w Pr bl c v L) :
    ∃ L', Rep P w Pr bl' (Abs.mapV f c) v L' ∧ (∀ x, L'.count x ≤ L.count x) := by
  cases c with
  | agg cs =>
    cases h with
    | agg h1 h2 =>
      obtain ⟨L', g, c⟩ := Reps.mapC hm h1
      exact ⟨L', .agg g h2, c⟩
  | nam y v =>
    cases v with
    | agg cs =>
      cases h with
      | nam h =>
        cases h with
        | agg h1 h2 =>
          obtain ⟨L', g, c⟩ := Reps.mapC hm h1
          exact ⟨L', .nam (.agg g h2), c⟩
    | _ => exact Rep.mapC hm h
  | _ => exact Rep.mapC hm h

/-- The pointers into n frames further in. -/
theorem moves_lift (n : Nat) (bs bl : List (List Nat)) (hn : bs.length = n) : Moves bl (bs ++ bl) (liftP n) where
  ptr u i o g h := .inr ⟨u + n, i, rfl, by
    rw [List.getElem?_append_right (by omega)]
    have : u + n - bs.length = u := by omega
    rw [this]; exact h⟩
  rest c hc := by cases c <;> first | rfl | exact absurd rfl (hc _ _ _)

theorem moves_kill (n : Nat) (b : List Nat) (bl : List (List Nat)) : Moves (b :: bl) (b.take n :: bl) (killP n) where
  ptr u i o g h := by
    simp only [killP]
    by_cases hk : u = 0 ∧ n ≤ i
    · rw [if_pos hk]; exact .inl rfl
    · rw [if_neg hk]
      refine .inr ⟨u, i, rfl, ?_⟩
      cases u with
      | zero =>
        simp only [List.getElem?_cons_zero, Option.bind_some] at h ⊢
        rw [List.getElem?_take, if_pos (by omega)]; exact h
      | succ u => simpa using h
  rest c hc := by cases c <;> first | rfl | exact absurd rfl (hc _ _ _)

theorem moves_ext (b gs : List Nat) (bl : List (List Nat)) : Moves (b :: bl) ((b ++ gs) :: bl) id where
  ptr u i o g h := .inr ⟨u, i, rfl, by
    cases u with
    | zero =>
      simp only [List.getElem?_cons_zero, Option.bind_some] at h ⊢
      rw [List.getElem?_append_left (List.getElem?_eq_some_iff.1 h).1]; exact h
    | succ u => simpa using h⟩
  rest c hc := rfl

mutual
theorem Rep.ext {b gs : List Nat} {bl : List (List Nat)} : ∀ {c v L}, Rep P w Pr (b :: bl) c v L → Rep P w Pr ((b ++ gs) :: bl) c v L
  | _, _, _, .bool => .bool
  | _, _, _, .int => .int
  | _, _, _, .str h h' => .str h h'
  | _, _, _, .slNo h1 h2 h3 h4 h5 => .slNo h1 h2 h3 h4 h5
  | _, _, _, .slNil => .slNil
  | _, _, _, .slOf h1 h2 h3 h4 h5 h6 h7 h8 h9 h10 => .slOf h1 h2 h3 h4 h5 h6 h7 h8 h9 h10
  | _, _, _, .slEx h1 h2 h3 h4 h5 h6 h7 h8 h9 => .slEx h1 h2 h3 h4 h5 h6 h7 h8 h9
  | _, _, _, .nam h => .nam (Rep.ext h)
  | _, _, _, .ept => .ept
  | _, _, _, .als h1 h2 => .als h1 h2
  | _, _, _, .alsA => .alsA
  | _, _, _, .agg h1 h2 => .agg (Reps.ext h1) h2
  | _, _, _, .tup h1 => .tup (Reps.ext h1)
  | _, _, _, .ptr (u := u) (i := i) (off := o) h => by
    rcases (moves_ext b gs bl).ptr u i o _ h with e | ⟨u', i', e, hg⟩
    · simp at e
    · simp only [id, AC.ptr.injEq] at e
      obtain ⟨rfl, rfl, -⟩ := e
      exact .ptr hg
  | _, _, _, .ref h1 h2 h3 => .ref h1 h2 h3
  | _, _, _, .fn h0 h => .fn h0 (Reps.ext h)
  | _, _, _, .optT h => .optT (Rep.ext h)
  | _, _, _, .optF => .optF
  | _, _, _, .undef => .undef
theorem Reps.ext {b gs : List Nat} {bl : List (List Nat)} : ∀ {cs vs L}, Reps P w Pr (b :: bl) cs vs L → Reps P w Pr ((b ++ gs) :: bl) cs vs L
  | _, _, _, .nil => .nil
  | _, _, _, .cons h1 h2 => .cons (Rep.ext h1) (Reps.ext h2)
end

theorem lowP_rep {n : Nat} {bs bl : List (List Nat)} (hn : bs.length = n) {c c' v} (hc : isPtr c = true) (e : lowP n c = some c') (h : Rep P w Pr (bs ++ bl) c v []) :
    Rep P w Pr bl c' v [] ∧ isPtr c' = true := by
  cases c <;> simp only [isPtr, Bool.false_eq_true] at hc
  · simp only [lowP] at e
    split at e
    · rename_i u i o hle
      cases e
      cases h with
      | ptr hg =>
        refine ⟨.ptr ?_, rfl⟩
        rw [List.getElem?_append_right (by omega)] at hg
        rw [← hn]; exact hg
    · cases e
  · simp only [lowP, Option.some.injEq] at e; subst e
    exact ⟨.undef, rfl⟩

theorem lowPs_rep {n : Nat} {bs bl : List (List Nat)} (hn : bs.length = n) {cs cs' vs} (hc : ∀ c ∈ cs, isPtr c = true) (e : cs.mapM (lowP n) = some cs') (h : Reps P w Pr (bs ++ bl) cs vs []) :
    Reps P w Pr bl cs' vs [] ∧ ∀ c ∈ cs', isPtr c = true := by
  induction cs generalizing cs' vs with
  | nil => cases h; simp at e; subst e; exact ⟨.nil, by simp⟩
  | cons c cs ih =>
    cases vs with
    | nil => cases h
    | cons v vs =>
      obtain ⟨h1, h2⟩ := Reps.nil_split h
      simp only [List.mapM_cons, Option.pure_def, Option.bind_eq_bind, Option.bind_eq_some_iff] at e
      obtain ⟨c1, e1, cs1, e2, e3⟩ := e
      simp only [Option.some.injEq] at e3; subst e3
      obtain ⟨g1, g2⟩ := lowP_rep hn (hc c List.mem_cons_self) e1 h1
      obtain ⟨k1, k2⟩ := ih (fun c hc' => hc c (List.mem_cons_of_mem _ hc')) e2 h2
      exact ⟨Reps.cons (L := []) (M := []) g1 k1, fun d hd => by rcases List.mem_cons.1 hd with rfl | hd; exact g2; exact k2 d hd⟩

theorem lowC_rep {n : Nat} {bs bl : List (List Nat)} (hn : bs.length = n) {c c' v L} (e : lowC n c = some c') (h : Rep P w Pr (bs ++ bl) c v L) : Rep P w Pr bl c' v L := by
  cases h with
  | ptr hg =>
    simp only [lowC] at e
    split at e
    · cases e
      refine .ptr ?_
      rw [List.getElem?_append_right (by omega)] at hg
      rw [← hn]; exact hg
    · cases e
  | fn h0 h1 =>
    simp only [lowC, Option.map_eq_some_iff] at e
    obtain ⟨cs', e1, rfl⟩ := e
    obtain ⟨g1, g2⟩ := lowPs_rep hn h0 e1 h1
    exact .fn g2 g1
  | agg => simp [lowC] at e
  | tup => simp [lowC] at e
  | optT => simp [lowC] at e
  | optF => simp [lowC] at e
  | bool => simp only [lowC, Option.some.injEq] at e; subst e; exact .bool
  | int => simp only [lowC, Option.some.injEq] at e; subst e; exact .int
  | str h h' => simp only [lowC, Option.some.injEq] at e; subst e; exact .str h h'
  | slNo h1 h2 h3 h4 h5 => simp only [lowC, Option.some.injEq] at e; subst e; exact .slNo h1 h2 h3 h4 h5
  | slNil => simp only [lowC, Option.some.injEq] at e; subst e; exact .slNil
  | slOf h1 h2 h3 h4 h5 h6 h7 h8 h9 h10 => simp only [lowC, Option.some.injEq] at e; subst e; exact .slOf h1 h2 h3 h4 h5 h6 h7 h8 h9 h10
  | ref h1 h2 h3 => simp only [lowC, Option.some.injEq] at e; subst e; exact .ref h1 h2 h3
  | slEx h1 h2 h3 h4 h5 h6 h7 h8 h9 => simp only [lowC, Option.some.injEq] at e; subst e; exact .slEx h1 h2 h3 h4 h5 h6 h7 h8 h9
  | nam h =>
    rename_i v
    cases v with
    | sl o n cs =>
      simp only [lowC, Option.some.injEq] at e; subst e
      cases h with
      | slNo h1 h2 h3 h4 h5 => exact .slNo h1 h2 h3 h4 h5
      | slNil => exact .slNil
      | slOf h1 h2 h3 h4 h5 h6 h7 h8 h9 h10 => exact .slOf h1 h2 h3 h4 h5 h6 h7 h8 h9 h10
      | slEx h1 h2 h3 h4 h5 h6 h7 h8 h9 => exact .slEx h1 h2 h3 h4 h5 h6 h7 h8 h9
    | _ => simp [lowC] at e
  | ept => simp only [lowC, Option.some.injEq] at e; subst e; exact .ept
  | als h1 h2 => simp only [lowC, Option.some.injEq] at e; subst e; exact .als h1 h2
  | alsA => simp only [lowC, Option.some.injEq] at e; subst e; exact .alsA
  | undef => simp only [lowC, Option.some.injEq] at e; subst e; exact .undef

theorem lowCs_rep {n : Nat} {bs bl : List (List Nat)} (hn : bs.length = n) {cs cs' vs L} (e : cs.mapM (lowC n) = some cs') (h : Reps P w Pr (bs ++ bl) cs vs L) : Reps P w Pr bl cs' vs L := by
  induction cs generalizing cs' vs L with
  | nil => cases h; simp at e; subst e; exact .nil
  | cons c cs ih =>
    cases h with
    | cons h1 h2 =>
      simp only [List.mapM_cons, Option.pure_def, Option.bind_eq_bind, Option.bind_eq_some_iff] at e
      obtain ⟨c1, e1, cs1, e2, e3⟩ := e
      simp only [Option.some.injEq] at e3; subst e3
      exact .cons (lowC_rep hn e1 h1) (ih e2 h2)

/-- What points into no boxes holds over any. -/
theorem moves_nil (bl : List (List Nat)) : Moves [] bl id where
  ptr u i o g h := by simp at h
  rest c hc := rfl

mutual
theorem Rep.nilbl : ∀ {bl c v L}, Rep P w Pr [] c v L → Rep P w Pr bl c v L
  | _, _, _, _, .bool => .bool
  | _, _, _, _, .int => .int
  | _, _, _, _, .str h h' => .str h h'
  | _, _, _, _, .slNo h1 h2 h3 h4 h5 => .slNo h1 h2 h3 h4 h5
  | _, _, _, _, .slNil => .slNil
  | _, _, _, _, .slOf h1 h2 h3 h4 h5 h6 h7 h8 h9 h10 => .slOf h1 h2 h3 h4 h5 h6 h7 h8 h9 h10
  | _, _, _, _, .slEx h1 h2 h3 h4 h5 h6 h7 h8 h9 => .slEx h1 h2 h3 h4 h5 h6 h7 h8 h9
  | _, _, _, _, .nam h => .nam (Rep.nilbl h)
  | _, _, _, _, .ept => .ept
  | _, _, _, _, .als h1 h2 => .als h1 h2
  | _, _, _, _, .alsA => .alsA
  | _, _, _, _, .agg h1 h2 => .agg (Reps.nilbl h1) h2
  | _, _, _, _, .tup h1 => .tup (Reps.nilbl h1)
  | _, _, _, _, .ptr h => by simp at h
  | _, _, _, _, .ref h1 h2 h3 => .ref h1 h2 h3
  | _, _, _, _, .fn h0 h => .fn h0 (Reps.nilbl h)
  | _, _, _, _, .optT h => .optT (Rep.nilbl h)
  | _, _, _, _, .optF => .optF
  | _, _, _, _, .undef => .undef
theorem Reps.nilbl : ∀ {bl cs vs L}, Reps P w Pr [] cs vs L → Reps P w Pr bl cs vs L
  | _, _, _, _, .nil => .nil
  | _, _, _, _, .cons h1 h2 => .cons (Rep.nilbl h1) (Reps.nilbl h2)
end

mutual
/-- Who looks while nobody writes. -/
theorem Rep.lend (hp : ∀ a, Pr a → Pr' a) : ∀ {bl c v L}, Rep P w Pr bl c v L → (∀ g ∈ L, ∀ a : Addr, a.block = g → Pr' a) → Rep P w Pr' bl (lendS c) v []
  | _, _, _, _, .bool, _ => by simpa [lendS] using Rep.bool
  | _, _, _, _, .int, _ => by simpa [lendS] using Rep.int
  | _, _, _, _, .str h h', _ => by simpa [lendS] using Rep.str h h'
  | _, _, _, _, .slNo h1 h2 h3 h4 h5, _ => by
    simp only [lendS]
    exact .slNo (Reps.kept (fun a ha => ⟨hp a ha, rfl⟩) h1 (fun g hg => by cases hg)) h2 (fun j u hu => ⟨hp _ (h3 j u hu).1, (h3 j u hu).2⟩) h4 h5
  | _, _, _, _, .slNil (o := o), _ => by cases o <;> simp only [lendS, lendL] <;> exact .slNil
  | _, _, _, _, .slOf (g := g) (cur := cur) h1 h2 h3 h4 h5 h6 h7 h8 h9 h10, hk => by
    simp only [lendS]
    refine .slNo (Reps.lend hp h1 fun g hg => hk g (List.mem_cons_of_mem _ hg)) h2 (fun j u hu => ?_) h4 h5
    have hadd : (⟨g, 0, none⟩ : Addr).add j = ⟨g, j, none⟩ := by rw [Addr.add_lit]; simp
    rw [hadd, cell_of_row w _ j cur _ _ h3]
    rw [← h8, List.getElem?_take] at hu
    split at hu
    · exact ⟨hk g List.mem_cons_self _ rfl, by simpa using hu⟩
    · cases hu
  | _, _, _, _, .slEx (g := g) (cur := cur) h1 h2 h3 h4 h5 h6 h7 h8 h9, hk => by
    simp only [lendS]
    refine .slNo (Reps.lend hp h1 fun g hg => hk g (List.mem_cons_of_mem _ hg)) h2 (fun j u hu => ?_) h4 h5
    have hadd : (⟨g, 0, none⟩ : Addr).add j = ⟨g, j, none⟩ := by rw [Addr.add_lit]; simp
    rw [hadd, cell_of_row w _ j cur _ _ h3]
    rw [← h8, List.getElem?_take] at hu
    split at hu
    · exact ⟨hk g List.mem_cons_self _ rfl, by simpa using hu⟩
    · cases hu
  | _, _, _, _, .nam h, hk => by simp only [lendS]; exact Rep.lend hp h hk
  | _, _, _, _, .ept, _ => by simp only [lendS]; exact .ept
  | _, _, _, _, .als h1 h2, _ => by simp only [lendS]; exact .als h1 h2
  | _, _, _, _, .alsA, _ => by simp only [lendS]; exact .alsA
  | _, _, _, _, .agg h1 h2, hk => by simp only [lendS]; exact .agg (Reps.lend hp h1 hk) h2
  | _, _, _, _, .tup h1, hk => by simp only [lendS]; exact .tup (Reps.lend hp h1 hk)
  | _, _, _, _, .ptr h, _ => by simp only [lendS]; exact .ptr h
  | _, _, _, _, .ref h1 h2 h3, _ => by
    simp only [lendS]
    exact .ref (Reps.kept (fun a ha => ⟨hp a ha, rfl⟩) h1 (fun g hg => by cases hg)) h2 (fun j u hu => ⟨hp _ (h3 j u hu).1, (h3 j u hu).2⟩)
  | _, _, _, _, .fn h0 h, _ => by simp only [lendS]; exact .fn h0 (Reps.kept (fun a ha => ⟨hp a ha, rfl⟩) h (fun g hg => by cases hg))
  | _, _, _, _, .optT h, hk => by simp only [lendS]; exact .optT (Rep.lend hp h hk)
  | _, _, _, _, .optF, _ => by simp only [lendS]; exact .optF
  | _, _, _, _, .undef, _ => by simp only [lendS]; exact .undef
theorem Reps.lend (hp : ∀ a, Pr a → Pr' a) : ∀ {bl cs vs L}, Reps P w Pr bl cs vs L → (∀ g ∈ L, ∀ a : Addr, a.block = g → Pr' a) → Reps P w Pr' bl (lendL cs) vs []
  | _, _, _, _, .nil, _ => by simp only [lendL]; exact .nil
  | _, _, _, _, .cons h1 h2, hk => by
    simp only [lendL]
    simpa using Reps.cons (Rep.lend hp h1 fun g hg => hk g (List.mem_append_left _ hg)) (Reps.lend hp h2 fun g hg => hk g (List.mem_append_right _ hg))
end

mutual
/-- What is closed needs none of the promises. -/
theorem Rep.toEx : ∀ {bl c v L}, Rep P w Pr bl c v L → closed c = true → (∀ g ∈ L, ∀ a : Addr, Pr' a → a.block ≠ g) → Rep P w Pr' bl (Abs.toEx c) v L
  | _, _, _, _, .bool, _, _ => by simpa [Abs.toEx] using Rep.bool
  | _, _, _, _, .int, _, _ => by simpa [Abs.toEx] using Rep.int
  | _, _, _, _, .str h h', _, _ => by simpa [Abs.toEx] using Rep.str h h'
  | _, _, _, _, .slNo .., hc, _ => by simp [closed] at hc
  | _, _, _, _, .slNil (o := o), _, _ => by cases o <;> simp only [Abs.toEx, toExL] <;> exact .slNil
  | _, _, _, _, .slOf h1 h2 h3 h4 h5 h6 h7 h8 h9 h10, hc, hk => by
    simp only [closed] at hc
    simp only [Abs.toEx]
    exact .slEx (Reps.toEx h1 hc fun g hg => hk g (List.mem_cons_of_mem _ hg)) h2 h3 h4 h5 h6 h7 h8 (hk _ List.mem_cons_self)
  | _, _, _, _, .slEx h1 h2 h3 h4 h5 h6 h7 h8 h9, hc, hk => by
    simp only [closed] at hc
    simp only [Abs.toEx]
    exact .slEx (Reps.toEx h1 hc fun g hg => hk g (List.mem_cons_of_mem _ hg)) h2 h3 h4 h5 h6 h7 h8 (hk _ List.mem_cons_self)
  | _, _, _, _, .nam _, hc, _ => by simp [closed] at hc
  | _, _, _, _, .ept, hc, _ => by simp [closed] at hc
  | _, _, _, _, .als .., hc, _ => by simp [closed] at hc
  | _, _, _, _, .alsA, hc, _ => by simp [closed] at hc
  | _, _, _, _, .agg h1 h2, hc, hk => by
    simp only [closed] at hc
    simp only [Abs.toEx]; exact .agg (Reps.toEx h1 hc hk) h2
  | _, _, _, _, .tup h1, hc, hk => by
    simp only [closed] at hc
    simp only [Abs.toEx]; exact .tup (Reps.toEx h1 hc hk)
  | _, _, _, _, .ptr _, hc, _ => by simp [closed] at hc
  | _, _, _, _, .ref .., hc, _ => by simp [closed] at hc
  | _, _, _, _, .fn .., hc, _ => by simp [closed] at hc
  | _, _, _, _, .optT _, hc, _ => by simp [closed] at hc
  | _, _, _, _, .optF, hc, _ => by simp [closed] at hc
  | _, _, _, _, .undef, hc, _ => by simp [closed] at hc
theorem Reps.toEx : ∀ {bl cs vs L}, Reps P w Pr bl cs vs L → closedL cs = true → (∀ g ∈ L, ∀ a : Addr, Pr' a → a.block ≠ g) → Reps P w Pr' bl (toExL cs) vs L
  | _, _, _, _, .nil, _, _ => by simp only [toExL]; exact .nil
  | _, _, _, _, .cons h1 h2, hc, hk => by
    simp only [closedL, Bool.and_eq_true] at hc
    simp only [toExL]
    exact .cons (Rep.toEx h1 hc.1 fun g hg => hk g (List.mem_append_left _ hg)) (Reps.toEx h2 hc.2 fun g hg => hk g (List.mem_append_right _ hg))
end

mutual
theorem Rep.unx : ∀ {bl c v L}, Rep P w Pr bl c v L → Rep P w Pr bl (Abs.unx c) v L
  | _, _, _, _, .bool => by simpa [Abs.unx] using Rep.bool
  | _, _, _, _, .int => by simpa [Abs.unx] using Rep.int
  | _, _, _, _, .str h h' => by simpa [Abs.unx] using Rep.str h h'
  | _, _, _, _, .slNo h1 h2 h3 h4 h5 => by simp only [Abs.unx]; exact .slNo h1 h2 h3 h4 h5
  | _, _, _, _, .slNil (o := o) => by cases o <;> simp only [Abs.unx, unxL] <;> exact .slNil
  | _, _, _, _, .slOf h1 h2 h3 h4 h5 h6 h7 h8 h9 h10 => by simp only [Abs.unx]; exact .slOf h1 h2 h3 h4 h5 h6 h7 h8 h9 h10
  | _, _, _, _, .slEx h1 h2 h3 h4 h5 h6 h7 h8 h9 => by simp only [Abs.unx]; exact .slEx (Reps.unx h1) h2 h3 h4 h5 h6 h7 h8 h9
  | _, _, _, _, .nam h => by simp only [Abs.unx]; exact Rep.unx h
  | _, _, _, _, .ept => by simp only [Abs.unx]; exact .ept
  | _, _, _, _, .als h1 h2 => by simp only [Abs.unx]; exact .als h1 h2
  | _, _, _, _, .alsA => by simp only [Abs.unx]; exact .alsA
  | _, _, _, _, .agg h1 h2 => by simp only [Abs.unx]; exact .agg (Reps.unx h1) h2
  | _, _, _, _, .tup h1 => by simp only [Abs.unx]; exact .tup (Reps.unx h1)
  | _, _, _, _, .ptr h => by simp only [Abs.unx]; exact .ptr h
  | _, _, _, _, .ref h1 h2 h3 => by simp only [Abs.unx]; exact .ref h1 h2 h3
  | _, _, _, _, .fn h0 h => by simp only [Abs.unx]; exact .fn h0 h
  | _, _, _, _, .optT h => by simp only [Abs.unx]; exact .optT h
  | _, _, _, _, .optF => by simp only [Abs.unx]; exact .optF
  | _, _, _, _, .undef => by simp only [Abs.unx]; exact .undef
theorem Reps.unx : ∀ {bl cs vs L}, Reps P w Pr bl cs vs L → Reps P w Pr bl (unxL cs) vs L
  | _, _, _, _, .nil => by simp only [unxL]; exact .nil
  | _, _, _, _, .cons h1 h2 => by simp only [unxL]; exact .cons (Rep.unx h1) (Reps.unx h2)
end
end
end Go.Proofs.YtkefgpmnimpcdaaGreatDoor.Abs
/- The relation between an abstract state and a frame with its world; reading and writing slots. No condition. -/
set_option linter.unusedVariables false
namespace Go.Proofs.YtkefgpmnimpcdaaGreatDoor.Abs
open Go

/-- A function's run: its program, how many slots, what is said of them, the world at its entry, what was promised to stay, the blocks that it may touch, the callers' boxes. -/
structure Cx where
  P : Program
  N : Nat
  fi : FI
  w0 : World
  Pr0 : Addr → Prop
  F : List Nat
  bl0 : List (List Nat)
  tab : Tab w0 Pr0

structure SRL (C : Cx) (st : St) (a : Act) (w : World) (Pr : Addr → Prop) (b : List Nat) (xs : List AC) (vs : List Value) (Le Ll Lx Lk : List Nat) : Prop where
  env : RepE C.P w Pr (b :: C.bl0) a.tmps st.env Le
  loc : RepE C.P w Pr (b :: C.bl0) a.tmps st.loc Ll
  reg : Reps C.P w Pr (b :: C.bl0) xs vs Lx
  K : RepK C.P w Pr st.K (b :: C.bl0) Lk
  cnt : ∀ x, Le.count x + Ll.count x + Lx.count x + Lk.count x + (b :: C.bl0).flatten.count x ≤ 1
  new : ∀ x, 0 < Le.count x + Ll.count x + Lx.count x + Lk.count x + (b :: C.bl0).flatten.count x → x ∈ C.F ∨ C.w0.heap.size ≤ x
  kE : (st.env.map (·.1)).Nodup ∧ ∀ k ∈ st.env.map (·.1), C.fi.isVar k = true
  kL : (st.loc.map (·.1)).Nodup ∧ ∀ k ∈ st.loc.map (·.1), C.fi.isVar k = false
  prlt : ∀ p, Pr p → p.block < w.heap.size
  since : Since C.w0 C.Pr0 C.F w Pr
  defers : a.defers = []
  size : a.tmps.size = C.N

def SR (C : Cx) (st : St) (a : Act) (w : World) (Pr : Addr → Prop) (b : List Nat) (xs : List AC) (vs : List Value) : Prop :=
  ∃ Le Ll Lx Lk, SRL C st a w Pr b xs vs Le Ll Lx Lk

section
variable {P : Program} {w w' : World} {Pr Pr' : Addr → Prop} {bl : List (List Nat)} {tmps : Array Value}

theorem RepE.look {env L k v} (h : RepE P w Pr bl tmps env L) (hk : look k env = some v) :
    ∃ x Lv, tmps[k]? = some x ∧ Rep P w Pr bl v x Lv ∧ ∀ y, Lv.count y ≤ L.count y := by
  induction env generalizing L with
  | nil => simp [Abs.look] at hk
  | cons e env ih =>
    obtain ⟨k', v'⟩ := e
    obtain ⟨L1, L2, x, hx, hr, hE, rfl⟩ := h
    simp only [Abs.look] at hk
    split at hk
    · rename_i e; subst e
      cases hk
      exact ⟨x, L1, hx, hr, fun y => by simp only [List.count_append]; omega⟩
    · obtain ⟨x', Lv, h1, h2, h3⟩ := ih hE hk
      exact ⟨x', Lv, h1, h2, fun y => by have := h3 y; simp only [List.count_append]; omega⟩

theorem keys_setE (k : Nat) (v : AC) (env : List (Nat × AC)) : ∀ j, j ∈ (setE k v env).map (·.1) ↔ j = k ∨ j ∈ env.map (·.1) := by
  induction env with
  | nil => intro j; simp [setE]
  | cons e env ih =>
    obtain ⟨k', v'⟩ := e
    intro j
    simp only [setE]
    split
    · rename_i e; subst e; simp
    · simp only [List.map_cons, List.mem_cons, ih j]
      constructor <;> rintro (h | h | h) <;> simp [h]

theorem nodup_setE (k : Nat) (v : AC) (env : List (Nat × AC)) (h : (env.map (·.1)).Nodup) : ((setE k v env).map (·.1)).Nodup := by
  induction env with
  | nil => simp [setE]
  | cons e env ih =>
    obtain ⟨k', v'⟩ := e
    simp only [List.map_cons, List.nodup_cons] at h
    simp only [setE]
    split
    · rename_i e; subst e; simpa using h
    · rename_i hne
      simp only [List.map_cons, List.nodup_cons]
      refine ⟨fun hm => ?_, ih h.2⟩
      rcases (keys_setE k v env k').1 hm with e | hm
      · exact hne e.symm
      · exact h.1 hm

theorem RepE.weak {env L k v} (h : RepE P w Pr bl tmps env L) (hk : Abs.look k env = some v) :
    ∃ x Lv L', tmps[k]? = some x ∧ Rep P w Pr bl v x Lv ∧ RepE P w Pr bl tmps (setE k (share v) env) L' ∧ ∀ y, Lv.count y + L'.count y ≤ L.count y := by
  induction env generalizing L with
  | nil => simp [Abs.look] at hk
  | cons e env ih =>
    obtain ⟨k', v'⟩ := e
    obtain ⟨L1, L2, x, hx, hr, hE, rfl⟩ := h
    simp only [Abs.look] at hk
    split at hk
    · rename_i e; subst e
      cases hk
      refine ⟨x, L1, L2, hx, hr, ?_, fun y => by simp only [List.count_append]; omega⟩
      simp only [setE, if_true]
      exact ⟨[], L2, x, hx, hr.share, hE, rfl⟩
    · rename_i hne
      obtain ⟨x', Lv, L', h1, h2, h3, h4⟩ := ih hE hk
      refine ⟨x', Lv, L1 ++ L', h1, h2, ?_, fun y => by have := h4 y; simp only [List.count_append]; omega⟩
      simp only [setE, if_neg hne]
      exact ⟨L1, L', x, hx, hr, h3, rfl⟩

theorem RepE.other {env L} {k : Nat} {x : Value} (h : RepE P w Pr bl tmps env L) (hk : k ∉ env.map (·.1)) : RepE P w Pr bl (tmps.setIfInBounds k x) env L := by
  induction env generalizing L with
  | nil => exact h
  | cons e env ih =>
    obtain ⟨k', v'⟩ := e
    obtain ⟨L1, L2, y, hx, hr, hE, rfl⟩ := h
    simp only [List.map_cons, List.mem_cons, not_or] at hk
    exact ⟨L1, L2, y, by rw [Array.getElem?_setIfInBounds_ne (fun e => hk.1 e)]; exact hx, hr, ih hE hk.2, rfl⟩

theorem RepE.put {env L} {k : Nat} {v : AC} {x : Value} {Lv} (h : RepE P w Pr bl tmps env L) (hn : (env.map (·.1)).Nodup) (hlt : k < tmps.size) (hv : Rep P w Pr bl v x Lv) :
    ∃ L', RepE P w Pr bl (tmps.setIfInBounds k x) (setE k v env) L' ∧ ∀ y, L'.count y ≤ L.count y + Lv.count y := by
  induction env generalizing L with
  | nil =>
    refine ⟨Lv, ⟨Lv, [], x, ?_, hv, rfl, by simp⟩, fun y => by omega⟩
    simp [hlt]
  | cons e env ih =>
    obtain ⟨k', v'⟩ := e
    obtain ⟨L1, L2, y, hx, hr, hE, rfl⟩ := h
    simp only [List.map_cons, List.nodup_cons] at hn
    simp only [setE]
    split
    · rename_i e; subst e
      refine ⟨Lv ++ L2, ⟨Lv, L2, x, by simp [hlt], hv, hE.other hn.1, rfl⟩, fun y => by simp only [List.count_append]; omega⟩
    · rename_i hne
      obtain ⟨L', h1, h2⟩ := ih hE hn.2
      refine ⟨L1 ++ L', ⟨L1, L', y, ?_, hr, h1, rfl⟩, fun z => by have := h2 z; simp only [List.count_append]; omega⟩
      rw [Array.getElem?_setIfInBounds_ne hne]; exact hx

theorem rep_ofV (v : Value) : Rep P w Pr bl (ofV v) v [] := by
  unfold ofV
  split
  · exact .bool
  · exact .int
  · split
    · exact .str rfl (by unfold maxLen; omega)
    · exact .undef
  · exact .slNil
  · exact .undef

theorem Rep.nam_inv {y v x L} (h : Rep P w Pr bl (.nam y v) x L) : Rep P w Pr bl v x L := by
  cases h with
  | nam h => exact h
theorem Rep.nam_val {y v x L} (h : Rep P w Pr bl (.nam y v) x L) : y = x := by
  cases h with
  | nam h => rfl

theorem Rep.opt_inv {g v x L} (h : Rep P w Pr bl (.opt g v) x L) (hg : g = true) : Rep P w Pr bl v x L := by
  subst hg
  cases h with
  | optT h => exact h

/-- The slots and registers hold as the world changes elsewhere. -/
theorem RepE.kept {env L} (hp : ∀ a, Pr a → Pr' a ∧ w'.cell? a = w.cell? a) (h : RepE P w Pr bl tmps env L) (hk : ∀ g ∈ L, Kept w Pr w' Pr' g) : RepE P w' Pr' bl tmps env L := by
  induction env generalizing L with
  | nil => exact h
  | cons e env ih =>
    obtain ⟨k', v'⟩ := e
    obtain ⟨L1, L2, y, hx, hr, hE, rfl⟩ := h
    exact ⟨L1, L2, y, hx, hr.kept hp (fun g hg => hk g (List.mem_append_left _ hg)), ih hE (fun g hg => hk g (List.mem_append_right _ hg)), rfl⟩

theorem RepE.ext {env L} {b gs : List Nat} {bl : List (List Nat)} (h : RepE P w Pr (b :: bl) tmps env L) : RepE P w Pr ((b ++ gs) :: bl) tmps env L := by
  induction env generalizing L with
  | nil => exact h
  | cons e env ih =>
    obtain ⟨k', v'⟩ := e
    obtain ⟨L1, L2, y, hx, hr, hE, rfl⟩ := h
    exact ⟨L1, L2, y, hx, hr.ext, ih hE, rfl⟩

theorem RepF.kept {f gs L} (hp : ∀ a, Pr a → Pr' a ∧ w'.cell? a = w.cell? a) (h : RepF P w Pr bl f gs L) (hk : ∀ g ∈ L, Kept w Pr w' Pr' g) (hb : ∀ g ∈ gs, Kept w Pr w' Pr' g) :
    RepF P w' Pr' bl f gs L := by
  induction f generalizing gs L with
  | nil => exact h
  | cons c f ih =>
    obtain ⟨g, gs', cur, T, L1, L2, rfl, hg, hr, h1, hpr, hF, rfl⟩ := h
    have hkg := hb g List.mem_cons_self
    exact ⟨g, gs', cur, T, L1, L2, rfl, hkg.heap.trans hg, hr.kept hp (fun g hg => hk g (List.mem_append_left _ hg)), h1,
      fun a ha e => hpr a (hkg.pr a ha e) e, ih hF (fun g hg => hk g (List.mem_append_right _ hg)) (fun g hg => hb g (List.mem_cons_of_mem _ hg)), rfl⟩

theorem RepK.kept {K L} {bl : List (List Nat)} (hp : ∀ a, Pr a → Pr' a ∧ w'.cell? a = w.cell? a) (h : RepK P w Pr K bl L) (hk : ∀ g ∈ L, Kept w Pr w' Pr' g) (hb : ∀ g ∈ bl.flatten, Kept w Pr w' Pr' g) :
    RepK P w' Pr' K bl L := by
  induction K generalizing bl L with
  | nil => exact h
  | cons f K ih =>
    obtain ⟨b, bl', L1, L2, rfl, hF, hK, rfl⟩ := h
    exact ⟨b, bl', L1, L2, rfl, hF.kept hp (fun g hg => hk g (List.mem_append_left _ hg)) (fun g hg => hb g (by simp [hg])),
      ih hK (fun g hg => hk g (List.mem_append_right _ hg)) (fun g hg => hb g (by simpa using .inr (by simpa using hg))), rfl⟩

theorem RepF.ext {f gs L} {b xs : List Nat} {bl : List (List Nat)} (h : RepF P w Pr (b :: bl) f gs L) : RepF P w Pr ((b ++ xs) :: bl) f gs L := by
  induction f generalizing gs L with
  | nil => exact h
  | cons c f ih =>
    obtain ⟨g, gs', cur, T, L1, L2, rfl, hg, hr, h1, hpr, hF, rfl⟩ := h
    exact ⟨g, gs', cur, T, L1, L2, rfl, hg, hr.ext, h1, hpr, ih hF, rfl⟩

theorem RepF.length {f gs L} (h : RepF P w Pr bl f gs L) : f.length = gs.length := by
  induction f generalizing gs L with
  | nil => rw [h.1]; rfl
  | cons c f ih =>
    obtain ⟨g, gs', cur, T, L1, L2, rfl, hg, hr, h1, hpr, hF, rfl⟩ := h
    simp [ih hF]

theorem RepF.box_lt {f gs L} (h : RepF P w Pr bl f gs L) : ∀ g ∈ gs, g < w.heap.size := by
  induction f generalizing gs L with
  | nil => rw [h.1]; simp
  | cons c f ih =>
    obtain ⟨g, gs', cur, T, L1, L2, rfl, hg, hr, h1, hpr, hF, rfl⟩ := h
    intro x hx
    rcases List.mem_cons.1 hx with rfl | hx
    · exact (Array.getElem?_eq_some_iff.1 hg).1
    · exact ih hF x hx

theorem RepF.own_lt {f gs L} (h : RepF P w Pr bl f gs L) : ∀ g ∈ L, g < w.heap.size := by
  induction f generalizing gs L with
  | nil => rw [h.2]; simp
  | cons c f ih =>
    obtain ⟨g, gs', cur, T, L1, L2, rfl, hg, hr, h1, hpr, hF, rfl⟩ := h
    intro x hx
    rcases List.mem_append.1 hx with hx | hx
    · exact hr.own_lt x hx
    · exact ih hF x hx

theorem RepK.box_lt {K L} {bl : List (List Nat)} (h : RepK P w Pr K bl L) : ∀ g ∈ bl.flatten, g < w.heap.size := by
  induction K generalizing bl L with
  | nil => rw [h.1]; simp
  | cons f K ih =>
    obtain ⟨b, bl', L1, L2, rfl, hF, hK, rfl⟩ := h
    intro x hx
    simp only [List.flatten_cons, List.mem_append] at hx
    rcases hx with hx | hx
    · exact hF.box_lt x hx
    · exact ih hK x hx

theorem RepK.own_lt {K L} {bl : List (List Nat)} (h : RepK P w Pr K bl L) : ∀ g ∈ L, g < w.heap.size := by
  induction K generalizing bl L with
  | nil => rw [h.2]; simp
  | cons f K ih =>
    obtain ⟨b, bl', L1, L2, rfl, hF, hK, rfl⟩ := h
    intro x hx
    rcases List.mem_append.1 hx with hx | hx
    · exact hF.own_lt x hx
    · exact ih hK x hx

theorem RepE.own_lt {env L} (h : RepE P w Pr bl tmps env L) : ∀ g ∈ L, g < w.heap.size := by
  induction env generalizing L with
  | nil => rw [show L = [] from h]; simp
  | cons e env ih =>
    obtain ⟨k', v'⟩ := e
    obtain ⟨L1, L2, y, hx, hr, hE, rfl⟩ := h
    intro x hx
    rcases List.mem_append.1 hx with hx | hx
    · exact hr.own_lt x hx
    · exact ih hE x hx
end
end Go.Proofs.YtkefgpmnimpcdaaGreatDoor.Abs
/- Reading slots into registers, writing registers into slots, a change of the world. No condition. -/
set_option linter.unusedVariables false
namespace Go.Proofs.YtkefgpmnimpcdaaGreatDoor.Abs
open Go
section
variable {C : Cx} {st : St} {a : Act} {w w' : World} {Pr Pr' : Addr → Prop} {b : List Nat} {xs : List AC} {vs : List Value}

theorem St.get_cases (st : St) (k : Nat) : (∃ v, look k st.loc = some v ∧ st.get k = v) ∨ (look k st.loc = none ∧ ∃ v, look k st.env = some v ∧ st.get k = v) ∨ (look k st.loc = none ∧ look k st.env = none ∧ st.get k = .undef) := by
  unfold St.get
  cases h : look k st.loc with
  | some v => exact .inl ⟨v, rfl, rfl⟩
  | none =>
    cases h' : look k st.env with
    | some v => exact .inr (.inl ⟨rfl, v, rfl, rfl⟩)
    | none => exact .inr (.inr ⟨rfl, rfl, rfl⟩)

theorem getD_of {tmps : Array Value} {k : Nat} {x : Value} (h : tmps[k]? = some x) : tmps.getD k undef = x := by
  simp [h]

/-- What a slot holds. -/
theorem SRL.get {Le Ll Lx Lk} (h : SRL C st a w Pr b xs vs Le Ll Lx Lk) (k : Nat) :
    ∃ L, Rep C.P w Pr (b :: C.bl0) (st.get k) (a.tmps.getD k undef) L ∧ ∀ y, L.count y ≤ Le.count y + Ll.count y := by
  rcases st.get_cases k with ⟨v, h1, h2⟩ | ⟨_, v, h1, h2⟩ | ⟨_, _, h2⟩
  · obtain ⟨x, L, hx, hr, hc⟩ := h.loc.look h1
    rw [h2, getD_of hx]; exact ⟨L, hr, fun y => by have := hc y; omega⟩
  · obtain ⟨x, L, hx, hr, hc⟩ := h.env.look h1
    rw [h2, getD_of hx]; exact ⟨L, hr, fun y => by have := hc y; omega⟩
  · rw [h2]; exact ⟨[], .undef, fun y => by simp⟩

theorem SRL.ev {Le Ll Lx Lk} (h : SRL C st a w Pr b xs vs Le Ll Lx Lk) (x : Operand) : Rep C.P w Pr (b :: C.bl0) (share (st.ev x)) (a.eval x) [] := by
  cases x with
  | tmp t => obtain ⟨L, hr, _⟩ := h.get t; exact hr.share
  | const v => exact (rep_ofV v).share
  | func f => simp only [St.ev, share, Act.eval]; exact .fn (by simp) .nil
  | global g => simp only [St.ev, share]; exact .undef

/-- What an operand is, with all that it holds alone. -/
theorem SR.full (h : SR C st a w Pr b xs vs) (x : Operand) : ∃ L, Rep C.P w Pr (b :: C.bl0) (st.ev x) (a.eval x) L := by
  obtain ⟨Le, Ll, Lx, Lk, h0⟩ := h
  cases x with
  | tmp t => obtain ⟨L, hl, _⟩ := h0.get t; exact ⟨L, hl⟩
  | const v => exact ⟨[], rep_ofV v⟩
  | func f => exact ⟨[], .fn (by simp) .nil⟩
  | global g => exact ⟨[], .undef⟩

theorem SR.ev (h : SR C st a w Pr b xs vs) (x : Operand) : Rep C.P w Pr (b :: C.bl0) (share (st.ev x)) (a.eval x) [] := by
  obtain ⟨Le, Ll, Lx, Lk, h⟩ := h; exact h.ev x

/-- A register more that holds nothing alone. -/
theorem SR.push (h : SR C st a w Pr b xs vs) {c v} (hr : Rep C.P w Pr (b :: C.bl0) c v []) : SR C st a w Pr b (c :: xs) (v :: vs) := by
  obtain ⟨Le, Ll, Lx, Lk, h⟩ := h
  exact ⟨Le, Ll, Lx, Lk, { h with reg := by simpa using Reps.cons hr h.reg }⟩

/-- A register less. -/
theorem SR.pop {c v} (h : SR C st a w Pr b (c :: xs) (v :: vs)) : SR C st a w Pr b xs vs := by
  obtain ⟨Le, Ll, Lx, Lk, h⟩ := h
  have hreg := h.reg
  cases hreg with
  | cons h1 h2 =>
    rename_i L M
    exact ⟨Le, Ll, M, Lk, { h with
      reg := h2
      cnt := fun x => by have := h.cnt x; simp only [List.count_append] at this ⊢; omega
      new := fun x hx => h.new x (by simp only [List.count_append] at hx ⊢; omega) }⟩

/-- A register that says less. -/
theorem SR.weaken {c d v} (h : SR C st a w Pr b (c :: xs) (v :: vs)) (hd : ∀ L, Rep C.P w Pr (b :: C.bl0) c v L → ∃ L', Rep C.P w Pr (b :: C.bl0) d v L' ∧ ∀ x, L'.count x ≤ L.count x) :
    SR C st a w Pr b (d :: xs) (v :: vs) := by
  obtain ⟨Le, Ll, Lx, Lk, h⟩ := h
  have hreg := h.reg
  cases hreg with
  | cons h1 h2 =>
    rename_i L M
    obtain ⟨L', hr, hc⟩ := hd L h1
    exact ⟨Le, Ll, L' ++ M, Lk, { h with
      reg := .cons hr h2
      cnt := fun x => by have := h.cnt x; have := hc x; simp only [List.count_append] at *; omega
      new := fun x hx => h.new x (by have := hc x; simp only [List.count_append] at hx ⊢; omega) }⟩

theorem SR.share1 {c v} (h : SR C st a w Pr b (c :: xs) (v :: vs)) : SR C st a w Pr b (share c :: xs) (v :: vs) :=
  h.weaken fun L hr => ⟨[], hr.share, fun x => by simp⟩

/-- A slot's value with all that it holds alone is taken into a register. -/
theorem SR.take (h : SR C st a w Pr b xs vs) (k : Nat) : SR C (st.weak k) a w Pr b (st.get k :: xs) (a.tmps.getD k undef :: vs) := by
  obtain ⟨Le, Ll, Lx, Lk, h⟩ := h
  rcases st.get_cases k with ⟨v, h1, h2⟩ | ⟨h0, v, h1, h2⟩ | ⟨h0, h1, h2⟩
  · obtain ⟨x, Lv, L', hx, hr, hE, hc⟩ := h.loc.weak h1
    rw [h2, getD_of hx]
    have hw : st.weak k = { st with loc := setE k (share v) st.loc } := by unfold St.weak; rw [h1]
    rw [hw]
    refine ⟨Le, L', Lv ++ Lx, Lk, { h with loc := hE, reg := .cons hr h.reg, cnt := fun x => ?_, new := fun x hx' => h.new x ?_, kL := ⟨nodup_setE _ _ _ h.kL.1, fun j hj => ?_⟩ }⟩
    · have := h.cnt x; have := hc x; simp only [List.count_append]; omega
    · have := hc x; simp only [List.count_append] at hx' ⊢; omega
    · rcases (keys_setE _ _ _ j).1 hj with rfl | hj
      · refine h.kL.2 _ ?_
        clear hw hE hc h2 hr h
        revert h1
        induction st.loc with
        | nil => intro h; simp [look] at h
        | cons e r ih =>
          intro h
          simp only [look] at h
          split at h
          · rename_i e'; simp [e']
          · simp [ih h]
      · exact h.kL.2 _ hj
  · obtain ⟨x, Lv, L', hx, hr, hE, hc⟩ := h.env.weak h1
    rw [h2, getD_of hx]
    have hw : st.weak k = { st with env := setE k (share v) st.env } := by unfold St.weak; rw [h0, h1]
    rw [hw]
    refine ⟨L', Ll, Lv ++ Lx, Lk, { h with env := hE, reg := .cons hr h.reg, cnt := fun x => ?_, new := fun x hx' => h.new x ?_, kE := ⟨nodup_setE _ _ _ h.kE.1, fun j hj => ?_⟩ }⟩
    · have := h.cnt x; have := hc x; simp only [List.count_append]; omega
    · have := hc x; simp only [List.count_append] at hx' ⊢; omega
    · rcases (keys_setE _ _ _ j).1 hj with rfl | hj
      · refine h.kE.2 _ ?_
        clear hw hE hc h2 hr h
        revert h1
        induction st.env with
        | nil => intro h; simp [look] at h
        | cons e r ih =>
          intro h
          simp only [look] at h
          split at h
          · rename_i e'; simp [e']
          · simp [ih h]
      · exact h.kE.2 _ hj
  · rw [h2]
    have hw : st.weak k = st := by unfold St.weak; rw [h0, h1]
    rw [hw]
    exact SR.push ⟨Le, Ll, Lx, Lk, h⟩ .undef

/-- A register goes into a slot. -/
theorem SR.put {c v} (h : SR C st a w Pr b (c :: xs) (v :: vs)) (dst : Option Nat) (hd : ∀ k, dst = some k → k < C.N) : SR C (st.put C.fi dst c) (a.put dst v) w Pr b xs vs := by
  cases dst with
  | none => exact h.pop
  | some k =>
    obtain ⟨Le, Ll, Lx, Lk, h⟩ := h
    have hk := hd k rfl
    have hreg := h.reg
    cases hreg with
    | cons h1 h2 =>
      rename_i L M
      simp only [St.put, Act.put]
      cases hv : C.fi.isVar k with
      | true =>
        simp only [if_true]
        obtain ⟨L', hE, hc⟩ := h.env.put h.kE.1 (by rw [h.size]; exact hk) h1
        refine ⟨L', Ll, M, Lk, { env := hE, loc := ?_, reg := h2, K := h.K, cnt := fun x => ?_, new := fun x hx => h.new x ?_, kE := ⟨nodup_setE _ _ _ h.kE.1, fun j hj => ?_⟩, kL := h.kL, prlt := h.prlt, since := h.since, defers := h.defers, size := by simpa using h.size }⟩
        · exact h.loc.other (fun hm => by have := h.kL.2 k hm; rw [hv] at this; cases this)
        · have := h.cnt x; have := hc x; simp only [List.count_append] at *; omega
        · have := hc x; simp only [List.count_append] at hx ⊢; omega
        · rcases (keys_setE _ _ _ j).1 hj with rfl | hj
          · exact hv
          · exact h.kE.2 _ hj
      | false =>
        simp only [Bool.false_eq_true, if_false]
        obtain ⟨L', hE, hc⟩ := h.loc.put h.kL.1 (by rw [h.size]; exact hk) h1
        refine ⟨Le, L', M, Lk, { env := ?_, loc := hE, reg := h2, K := h.K, cnt := fun x => ?_, new := fun x hx => h.new x ?_, kE := h.kE, kL := ⟨nodup_setE _ _ _ h.kL.1, fun j hj => ?_⟩, prlt := h.prlt, since := h.since, defers := h.defers, size := by simpa using h.size }⟩
        · exact h.env.other (fun hm => by have := h.kE.2 k hm; rw [hv] at this; cases this)
        · have := h.cnt x; have := hc x; simp only [List.count_append] at *; omega
        · have := hc x; simp only [List.count_append] at hx ⊢; omega
        · rcases (keys_setE _ _ _ j).1 hj with rfl | hj
          · exact hv
          · exact h.kL.2 _ hj

theorem SR.dropLoc (h : SR C st a w Pr b xs vs) : SR C { st with loc := [] } a w Pr b xs vs := by
  obtain ⟨Le, Ll, Lx, Lk, h⟩ := h
  exact ⟨Le, [], Lx, Lk, { h with loc := rfl, kL := by simp, cnt := fun x => by have := h.cnt x; simp only [List.count_nil]; omega, new := fun x hx => h.new x (by simp only [List.count_nil] at hx; omega) }⟩

/-- An operand under its guard. -/
theorem un_sound {gd : Option Bool} {v : AC} {k : AC → Prop} (hu : un gd v k) (hg : gOk gd) : ∃ u, k u ∧ ∀ {P w Pr bl x L}, Rep P w Pr bl v x L → Rep P w Pr bl u x L := by
  unfold un at hu
  split at hu
  · exact ⟨_, hu.2, fun h => h.opt_inv (hu.1 hg)⟩
  · exact ⟨_, hu, fun h => h.nam_inv⟩
  · exact ⟨_, hu, fun h => h⟩

theorem un_share {gd : Option Bool} {v : AC} {k : AC → Prop} (hu : un gd v k) (hg : gOk gd) : ∃ u, k u ∧ (∀ {P w Pr bl x L}, Rep P w Pr bl v x L → Rep P w Pr bl u x L) ∧ ∀ {P w Pr bl x L}, Rep P w Pr bl (share v) x L → Rep P w Pr bl (share u) x L := by
  unfold un at hu
  split at hu
  · refine ⟨_, hu.2, fun h => h.opt_inv (hu.1 hg), fun h => ?_⟩
    simp only [share] at h
    exact h.opt_inv (hu.1 hg)
  · refine ⟨_, hu, fun h => h.nam_inv, fun h => ?_⟩
    simpa only [share] using h
  · exact ⟨_, hu, fun h => h, fun h => h⟩

/-- An operand read under its guard, shared. -/
theorem SR.un (h : SR C st a w Pr b xs vs) {gd : Option Bool} {x : Operand} {k : AC → Prop} (hu : Abs.un gd (st.ev x) k) (hg : gOk gd) :
    ∃ u, k u ∧ Rep C.P w Pr (b :: C.bl0) (share u) (a.eval x) [] := by
  obtain ⟨u, hk, _, h2⟩ := un_share hu hg
  exact ⟨u, hk, h2 (h.ev x)⟩

theorem SR.wT (h : SR C st a w Pr b xs vs) {m : Bool} {gd : Option Bool} {x : Operand} {k : AC → St → Prop} (hu : Abs.wT C.fi m gd st x k) (hg : gOk gd) :
    ∃ u st', k u st' ∧ SR C st' a w Pr b (u :: xs) (a.eval x :: vs) ∧ st'.K = st.K ∧ (m = false → st' = st) := by
  unfold Abs.wT at hu
  split at hu
  · rename_i t
    obtain ⟨u, hk, h1, h2⟩ := un_share hu hg
    split at hk
    · rename_i hm
      refine ⟨u, _, hk, (h.take t).weaken fun L hr => ⟨L, h1 hr, fun x => Nat.le_refl _⟩, ?_, fun e => by simp [e] at hm⟩
      unfold St.weak; split
      · rfl
      · split <;> rfl
    · exact ⟨_, _, hk, h.push (h2 (h.ev (.tmp t))), rfl, fun _ => rfl⟩
  · rename_i hx
    refine ⟨_, _, hu, h.push ?_, rfl, fun _ => rfl⟩
    cases x with
    | tmp t => exact absurd rfl (hx t)
    | const v => exact rep_ofV v
    | func f => exact .fn (by simp) .nil
    | global g => exact .undef

theorem look_mem {k : Nat} {v : AC} : ∀ {env : List (Nat × AC)}, look k env = some v → k ∈ env.map (·.1) := by
  intro env
  induction env with
  | nil => intro h; simp [look] at h
  | cons e r ih =>
    intro h
    simp only [look] at h
    split at h
    · rename_i e'; simp [e']
    · simp [ih h]

/-- A slot's value may be told anew, in a world that is another only there. -/
theorem RepE.repl {P : Program} {bl : List (List Nat)} {tmps : Array Value} {env L k v} (h : RepE P w Pr bl tmps env L) (hk : Abs.look k env = some v) :
    ∃ (x : Value) (Lv L0 : List Nat), tmps[k]? = some x ∧ Rep P w Pr bl v x Lv ∧ (∀ y, Lv.count y + L0.count y = L.count y) ∧
      ∀ (w' : World) (Pr' : Addr → Prop) (bl' : List (List Nat)) (v' : AC) (L' : List Nat), (∀ c z M, Rep P w Pr bl c z M → (∀ g ∈ M, g ∈ L0) → Rep P w' Pr' bl' c z M) →
        Rep P w' Pr' bl' v' x L' → ∃ L2, RepE P w' Pr' bl' tmps (setE k v' env) L2 ∧ ∀ y, L2.count y = L0.count y + L'.count y := by
  induction env generalizing L with
  | nil => simp [Abs.look] at hk
  | cons e env ih =>
    obtain ⟨k', u⟩ := e
    obtain ⟨L1, L2, x, hx, hr, hE, rfl⟩ := h
    have hkeep : ∀ (L0 : List Nat) (w' : World) (Pr' : Addr → Prop) (bl' : List (List Nat)), (∀ c z M, Rep P w Pr bl c z M → (∀ g ∈ M, g ∈ L0) → Rep P w' Pr' bl' c z M) →
        ∀ (env : List (Nat × AC)) (L : List Nat), RepE P w Pr bl tmps env L → (∀ g ∈ L, g ∈ L0) → RepE P w' Pr' bl' tmps env L := by
      intro L0 w' Pr' bl' hkp env
      induction env with
      | nil => intro L h _; exact h
      | cons e env ih =>
        intro L h hin
        obtain ⟨j, c⟩ := e
        obtain ⟨M1, M2, z, hz, hrz, hEz, rfl⟩ := h
        exact ⟨M1, M2, z, hz, hkp _ _ _ hrz (fun g hg => hin g (List.mem_append_left _ hg)), ih M2 hEz (fun g hg => hin g (List.mem_append_right _ hg)), rfl⟩
    simp only [Abs.look] at hk
    split at hk
    · rename_i e; subst e
      cases hk
      refine ⟨x, L1, L2, hx, hr, fun y => by simp, fun w' Pr' bl' v' L' hkp hr' => ?_⟩
      refine ⟨L' ++ L2, ?_, fun y => by simp only [List.count_append]; omega⟩
      simp only [setE, if_true]
      exact ⟨L', L2, x, hx, hr', hkeep L2 w' Pr' bl' hkp env L2 hE (fun g hg => hg), rfl⟩
    · rename_i hne
      obtain ⟨x', Lv, L0, h1, h2, h3, h4⟩ := ih hE hk
      refine ⟨x', Lv, L1 ++ L0, h1, h2, fun y => by have := h3 y; simp only [List.count_append]; omega, fun w' Pr' bl' v' L' hkp hr' => ?_⟩
      obtain ⟨L3, g1, g2⟩ := h4 w' Pr' bl' v' L' (fun c z M hM hin => hkp c z M hM fun g hg => List.mem_append_right _ (hin g hg)) hr'
      refine ⟨L1 ++ L3, ?_, fun y => by have := g2 y; simp only [List.count_append]; omega⟩
      simp only [setE, if_neg hne]
      exact ⟨L1, L3, x, hx, hkp _ _ _ hr (fun g hg => List.mem_append_left _ hg), g1, rfl⟩

theorem RepE.keep {P : Program} {bl bl' : List (List Nat)} {tmps : Array Value} (L0 : List Nat) (hkp : ∀ c z M, Rep P w Pr bl c z M → (∀ g ∈ M, g ∈ L0) → Rep P w' Pr' bl' c z M) :
    ∀ {env : List (Nat × AC)} {L : List Nat}, RepE P w Pr bl tmps env L → (∀ g ∈ L, g ∈ L0) → RepE P w' Pr' bl' tmps env L := by
  intro env
  induction env with
  | nil => intro L h _; exact h
  | cons e env ih =>
    intro L h hin
    obtain ⟨j, c⟩ := e
    obtain ⟨M1, M2, z, hz, hrz, hEz, rfl⟩ := h
    exact ⟨M1, M2, z, hz, hkp _ _ _ hrz (fun g hg => hin g (List.mem_append_left _ hg)), ih hEz (fun g hg => hin g (List.mem_append_right _ hg)), rfl⟩

/-- What a slot holds, and how to tell it anew. -/
theorem SRL.slot {Le Ll Lx Lk} (h : SRL C st a w Pr b xs vs Le Ll Lx Lk) {k : Nat} {v : AC} (hk : st.get k = v) (hv : v ≠ .undef) :
    ∃ (x : Value) (Lv Lr : List Nat), a.tmps[k]? = some x ∧ Rep C.P w Pr (b :: C.bl0) v x Lv ∧ (∀ y, Lv.count y + Lr.count y = Le.count y + Ll.count y) ∧ ∀ v', (st.setAt k v').K = st.K ∧
      (((st.setAt k v').env.map (·.1)).Nodup ∧ ∀ j ∈ (st.setAt k v').env.map (·.1), C.fi.isVar j = true) ∧ (((st.setAt k v').loc.map (·.1)).Nodup ∧ ∀ j ∈ (st.setAt k v').loc.map (·.1), C.fi.isVar j = false) ∧
      ∀ (w' : World) (Pr' : Addr → Prop) (bl' : List (List Nat)) (L' : List Nat), (∀ c z M, Rep C.P w Pr (b :: C.bl0) c z M → (∀ g ∈ M, g ∈ Lr) → Rep C.P w' Pr' bl' c z M) →
        Rep C.P w' Pr' bl' v' x L' → ∃ Le' Ll', RepE C.P w' Pr' bl' a.tmps (st.setAt k v').env Le' ∧ RepE C.P w' Pr' bl' a.tmps (st.setAt k v').loc Ll' ∧ ∀ y, Le'.count y + Ll'.count y = Lr.count y + L'.count y := by
  rcases st.get_cases k with ⟨u, h1, h2⟩ | ⟨h0, u, h1, h2⟩ | ⟨h0, h1, h2⟩
  · rw [hk] at h2; subst h2
    obtain ⟨x, Lv, L0, hx, hr, hc, hrep⟩ := h.loc.repl h1
    refine ⟨x, Lv, Le ++ L0, hx, hr, fun y => by have := hc y; simp only [List.count_append]; omega, fun v' => ?_⟩
    have hw : st.setAt k v' = { st with loc := setE k v' st.loc } := by unfold St.setAt; rw [h1]
    rw [hw]
    refine ⟨rfl, h.kE, ⟨nodup_setE _ _ _ h.kL.1, fun j hj => ?_⟩, fun w' Pr' bl' L' hkp hr' => ?_⟩
    · rcases (keys_setE _ _ _ j).1 hj with rfl | hj
      · exact h.kL.2 _ (look_mem h1)
      · exact h.kL.2 _ hj
    · obtain ⟨L2, g1, g2⟩ := hrep w' Pr' bl' v' L' (fun c z M hM hin => hkp c z M hM fun g hg => List.mem_append_right _ (hin g hg)) hr'
      exact ⟨Le, L2, h.env.keep (Le ++ L0) hkp (fun g hg => List.mem_append_left _ hg), g1, fun y => by have := g2 y; simp only [List.count_append]; omega⟩
  · rw [hk] at h2; subst h2
    obtain ⟨x, Lv, L0, hx, hr, hc, hrep⟩ := h.env.repl h1
    refine ⟨x, Lv, L0 ++ Ll, hx, hr, fun y => by have := hc y; simp only [List.count_append]; omega, fun v' => ?_⟩
    have hw : st.setAt k v' = { st with env := setE k v' st.env } := by unfold St.setAt; rw [h0]
    rw [hw]
    refine ⟨rfl, ⟨nodup_setE _ _ _ h.kE.1, fun j hj => ?_⟩, h.kL, fun w' Pr' bl' L' hkp hr' => ?_⟩
    · rcases (keys_setE _ _ _ j).1 hj with rfl | hj
      · exact h.kE.2 _ (look_mem h1)
      · exact h.kE.2 _ hj
    · obtain ⟨L2, g1, g2⟩ := hrep w' Pr' bl' v' L' (fun c z M hM hin => hkp c z M hM fun g hg => List.mem_append_left _ (hin g hg)) hr'
      exact ⟨L2, Ll, g1, h.loc.keep (L0 ++ Ll) hkp (fun g hg => List.mem_append_right _ hg), fun y => by have := g2 y; simp only [List.count_append]; omega⟩
  · rw [hk] at h2; exact absurd h2 hv

/-- A slot's value told anew in the same world. -/
theorem SR.setAt (h : SR C st a w Pr b xs vs) {k : Nat} {v v' : AC} (hk : st.get k = v) (hv : v ≠ .undef)
    (hr : ∀ x L, a.tmps.getD k undef = x → Rep C.P w Pr (b :: C.bl0) v x L → ∃ L', Rep C.P w Pr (b :: C.bl0) v' x L' ∧ ∀ y, L'.count y ≤ L.count y) : SR C (st.setAt k v') a w Pr b xs vs := by
  obtain ⟨Le, Ll, Lx, Lk, h⟩ := h
  obtain ⟨x, Lv, Lr, hx, hrv, hc, hset⟩ := h.slot hk hv
  obtain ⟨L', hr', hc'⟩ := hr x Lv (getD_of hx) hrv
  obtain ⟨eK, kE, kL, hset⟩ := hset v'
  obtain ⟨Le', Ll', g1, g2, g3⟩ := hset w Pr _ L' (fun c z M hM _ => hM) hr'
  refine ⟨Le', Ll', Lx, Lk, { h with env := g1, loc := g2, K := by rw [eK]; exact h.K, cnt := fun y => ?_, new := fun y hy => h.new y ?_, kE := kE, kL := kL }⟩
  · have := h.cnt y; have := g3 y; have := hc y; have := hc' y; omega
  · have := g3 y; have := hc y; have := hc' y; omega

/-- The world changes elsewhere. -/
theorem SR.world (h : SR C st a w Pr b xs vs) (hp : ∀ p, Pr p → Pr' p ∧ w'.cell? p = w.cell? p) (hg : ∀ g, g < w.heap.size → Kept w Pr w' Pr' g)
    (hl : ∀ p, Pr' p → p.block < w'.heap.size) (hs : Since C.w0 C.Pr0 C.F w' Pr') : SR C st a w' Pr' b xs vs := by
  obtain ⟨Le, Ll, Lx, Lk, h⟩ := h
  exact ⟨Le, Ll, Lx, Lk, { h with
    env := h.env.kept hp fun g hg' => hg g (h.env.own_lt g hg')
    loc := h.loc.kept hp fun g hg' => hg g (h.loc.own_lt g hg')
    reg := h.reg.kept hp fun g hg' => hg g (h.reg.own_lt g hg')
    K := h.K.kept hp (fun g hg' => hg g (h.K.own_lt g hg')) (fun g hg' => hg g (h.K.box_lt g hg'))
    prlt := hl
    since := hs }⟩

/-- A block more, of which nothing is promised yet. -/
theorem SR.alloc (h : SR C st a w Pr b xs vs) (o : Obj) : SR C st a (w.alloc o) Pr b xs vs := by
  have h0 := h
  obtain ⟨Le, Ll, Lx, Lk, hl⟩ := h0
  refine h.world (fun p hp => ⟨hp, World.cell?_alloc_lt w o p (hl.prlt p hp)⟩) (fun g hg => ⟨heap_alloc_old w o g hg, fun p hp _ => hp⟩) (fun p hp => ?_) ?_
  · have := hl.prlt p hp; simp; omega
  · have hs := hl.since
    exact ⟨hs.os, hs.tape, hs.output, by have := hs.size; simp; omega, fun g hg hF => (heap_alloc_old w o g (by have := hs.size; omega)).trans (hs.block g hg hF),
      fun p hp => ⟨(hs.prot p hp).1, (World.cell?_alloc_lt w o p (hl.prlt p (hs.prot p hp).1)).trans (hs.prot p hp).2⟩, hs.newPr⟩

theorem SR.drew (h : SR C st a w Pr b xs vs) : SR C st a w.drew Pr b xs vs := by
  have h0 := h
  obtain ⟨Le, Ll, Lx, Lk, hl⟩ := h0
  have hs := hl.since
  exact h.world (fun p hp => ⟨hp, rfl⟩) (fun g hg => ⟨rfl, fun p hp _ => hp⟩) hl.prlt ⟨hs.os, hs.tape, hs.output, hs.size, hs.block, hs.prot, hs.newPr⟩
end
end Go.Proofs.YtkefgpmnimpcdaaGreatDoor.Abs
/- The operations that leave the world alone do what the weakest precondition says. No condition. -/
set_option linter.unusedVariables false
set_option linter.unusedSimpArgs false
namespace Go.Proofs.YtkefgpmnimpcdaaGreatDoor.Abs
open Go
/-- Where an operation's walk goes on. -/
def Goes (C : Cx) (m : Bool) (st : St) (b : List Nat) (a : Act) (xs : List AC) (vs : List Value) (dst : Option Nat) (next : Act → World → Prop) (k : AC → St → Prop) : Prop :=
  ∀ av st' v w' Pr' b', k av st' → SR C st' a w' Pr' b' (av :: xs) (v :: vs) → (m = false → st' = st ∧ b' = b) → next (a.put dst v) w'

/-! What 'tdOf' says of a type. -/
theorem tdOf_bool {P : Program} {t : TypeId} (h : tdOf P t = .bool) : P.underlying t = some .bool := by
  unfold tdOf at h; split at h <;> first | assumption | (simp at h; done)
theorem tdOf_int {P : Program} {t : TypeId} {j : IntKind} (h : tdOf P t = .int j) : P.underlying t = some (.int j) := by
  unfold tdOf at h; split at h <;> first | (simp at h; done) | (simp at h; subst h; assumption)
theorem tdOf_str {P : Program} {t : TypeId} (h : tdOf P t = .str) : P.underlying t = some .string := by
  unfold tdOf at h; split at h <;> first | assumption | (simp at h; done)
theorem tdOf_slice {P : Program} {t e : TypeId} (h : tdOf P t = .slice e) : P.underlying t = some (.slice e) := by
  unfold tdOf at h; split at h <;> first | (simp at h; done) | (simp at h; subst h; assumption)
theorem tdOf_struct {P : Program} {t : TypeId} {fs : List (Nat × Nat × TypeId)} (h : tdOf P t = .struct fs) :
    ∃ gs, P.underlying t = some (.struct gs) ∧ fs = gs.toList.map fun f => (f.offset, P.cellsOf f.type, f.type) := by
  unfold tdOf at h; split at h <;> first | (simp at h; done) | (rename_i gs hu; simp at h; exact ⟨gs, hu, h.symm⟩)
theorem goodTy_und {P : Program} {t : TypeId} (h : goodTy P t) : ∃ d, P.underlying t = some d ∧ (∀ n e, d ≠ .array n e) ∧ ((∃ fs, d = .struct fs) ↔ ∃ fs, tdOf P t = .struct fs) := by
  unfold goodTy tdOf at h
  unfold tdOf
  cases hu : P.underlying t with
  | none => simp [hu] at h
  | some d => cases d <;> simp [hu] at h ⊢

section
variable {C : Cx} {st : St} {a : Act} {w w' : World} {Pr Pr' : Addr → Prop} {b : List Nat} {xs : List AC} {vs : List Value} {m : Bool} {gd : Option Bool} {dst : Option Nat}
  {next : Act → World → Prop} {Q : Exit → Act → World → Prop} {k : AC → St → Prop} {o : Oper}

theorem wp_val {v : Value} (hr : (execOp a.eval o).run C.P w = .ok (.value v) w') (hn : next (a.put o.dst v) w') : o.wp C.P a w next Q := by
  unfold Oper.wp; rw [hr]; exact hn

theorem wp_quiet {v : Value} {av : AC} (h : SR C st a w Pr b xs vs) (hn : Goes C m st b a xs vs o.dst next k) (hk : k av st) (hr : Rep C.P w Pr (b :: C.bl0) av v [])
    (hrun : (execOp a.eval o).run C.P w = .ok (.value v) w) : o.wp C.P a w next Q :=
  wp_val hrun (hn _ _ _ _ _ _ hk (h.push hr) fun _ => ⟨rfl, rfl⟩)

theorem s_move {x : Operand} (ho : o.op = .move x) (h : SR C st a w Pr b xs vs) (hg : gOk gd) (hD : wD_move C.P C.fi m gd o.dst x st k) (hn : Goes C m st b a xs vs o.dst next k) :
    o.wp C.P a w next Q := by
  have hrun : (execOp a.eval o).run C.P w = .ok (.value (a.eval x)) w := by simp [execOp, ho]
  unfold wD_move at hD
  split at hD
  · rename_i t
    split at hD
    · rename_i hm
      obtain ⟨u, hk, h1, h2⟩ := un_share hD hg
      refine wp_val hrun (hn _ _ _ _ _ _ hk ((h.take t).weaken fun L hr => ⟨L, h1 hr, fun x => Nat.le_refl _⟩) fun e => by simp [e] at hm)
    · split at hD
      · rename_i y v hv
        have hev := h.ev (.tmp t)
        simp only [St.ev, hv, share] at hev
        split at hD
        · rename_i hX
          refine wp_quiet h hn hD ?_ hrun
          obtain ⟨Le, Ll, Lx, Lk, h0⟩ := h
          obtain ⟨L, hr, _⟩ := h0.get t
          rw [hv] at hr
          have hy := hr.nam_val
          have hr := hr.nam_inv
          simp only [Act.eval]
          rw [← hy]
          rw [← hy] at hr
          cases v with
          | sl o n cs =>
            simp only [lenOf]
            cases hr with
            | slNo _ _ _ h4 h5 => simp [isX] at hX
            | slNil => exact .als ⟨Nat.le_refl _, Nat.zero_le _⟩ (.inl ⟨rfl, rfl⟩)
            | slOf _ _ _ h4 h5 => simp [isX] at hX
            | slEx _ _ _ h4 h5 => exact .als ⟨h4, Nat.le_trans h4 h5⟩ (.inr ⟨_, rfl⟩)
          | agg cs => exact .alsA
          | _ => simp [isX] at hX
        · exact wp_quiet h hn hD hev hrun
      · obtain ⟨u, hk, h1, h2⟩ := un_share hD hg
        exact wp_quiet h hn hk (h2 (h.ev (.tmp t))) hrun
  · rename_i hx
    refine wp_quiet h hn hD ?_ hrun
    cases x with
    | tmp t => exact absurd rfl (hx t)
    | const v => exact rep_ofV v
    | func f => exact .fn (by simp) .nil
    | global g => exact .undef

theorem s_assign {x : Operand} (ho : o.op = .assign x) (h : SR C st a w Pr b xs vs) (hg : gOk gd) (hD : wD_assign C.P C.fi m gd dst x st k) (hn : Goes C m st b a xs vs o.dst next k) :
    o.wp C.P a w next Q := by
  obtain ⟨u, st', hk, hS, _, hm⟩ := h.wT hD hg
  exact wp_val (by simp [execOp, ho]) (hn _ _ _ _ _ _ hk hS fun e => ⟨hm e, rfl⟩)

theorem rep_pick {P : Program} {bl : List (List Nat)} {c : Bool} {x y : AC} {u v : Value} {L M : List Nat} (hx : c = true → Rep P w Pr bl x u L) (hy : c = false → Rep P w Pr bl y v M) :
    ∃ N, Rep P w Pr bl (pickV c x y) (if c then u else v) N := by
  cases c with
  | true =>
    have hx := hx rfl
    refine ⟨L, ?_⟩
    unfold pickV
    split
    · simpa using hx
    · split
      · simpa using hx
      · simpa using hx
    · simpa using hx
    · simpa using hx
  | false =>
    have hy := hy rfl
    refine ⟨M, ?_⟩
    unfold pickV
    split
    · simpa using hy
    · split
      · rename_i e; subst e; simpa using hy
      · simpa using hy
    · simpa using hy
    · simpa using hy

theorem un_rep {v : AC} {kk : AC → Prop} (hu : Abs.un gd v kk) : ∃ u, kk u ∧ (gOk gd → ∀ {P w Pr bl x L}, Rep P w Pr bl v x L → Rep P w Pr bl u x L) := by
  unfold Abs.un at hu
  split at hu
  · exact ⟨_, hu.2, fun hg {P w Pr bl x L} h => h.opt_inv (hu.1 hg)⟩
  · exact ⟨_, hu, fun hg {P w Pr bl x L} h => h.nam_inv⟩
  · exact ⟨_, hu, fun hg {P w Pr bl x L} h => h⟩

theorem s_pick {c x y : Operand} (ho : o.op = .pick c x y) (h : SR C st a w Pr b xs vs) (hg : gOk gd) (hD : wD_pick C.P C.fi m gd dst c x y st k) (hn : Goes C m st b a xs vs o.dst next k) :
    o.wp C.P a w next Q := by
  unfold wD_pick at hD
  obtain ⟨u, hk, hr⟩ := h.un hD hg
  split at hk
  · rename_i cb
    simp only [share] at hr
    obtain ⟨u1, hk, r1⟩ := un_rep hk
    obtain ⟨u2, hk, r2⟩ := un_rep hk
    have hgt : gd.getD true = true := by cases gd with | none => rfl | some g => exact hg
    obtain ⟨Le, Ll, Lx, Lk, h0⟩ := h
    have full : ∀ z : Operand, ∃ L, Rep C.P w Pr (b :: C.bl0) (st.ev z) (a.eval z) L := fun z => by
      cases z with
      | tmp t => obtain ⟨L, hl, _⟩ := h0.get t; exact ⟨L, hl⟩
      | const v => exact ⟨[], rep_ofV v⟩
      | func f => exact ⟨[], .fn (by simp) .nil⟩
      | global g => exact ⟨[], .undef⟩
    obtain ⟨L1, f1⟩ := full x
    obtain ⟨L2, f2⟩ := full y
    obtain ⟨N, hp⟩ := rep_pick (c := cb) (x := u1) (y := u2) (u := a.eval x) (v := a.eval y) (fun e => r1 (by simp [gOk, hgt, e]) f1) (fun e => r2 (by simp [gOk, hgt, e]) f2)
    have hcv : a.eval c = .bool cb := by generalize a.eval c = z at hr; cases hr; rfl
    refine wp_quiet ⟨Le, Ll, Lx, Lk, h0⟩ hn hk hp.share ?_
    simp only [execOp, ho, hcv, asBool]
    cases cb <;> simp
  · exact absurd hg hk.1
  · exact hk.elim

theorem s_nilCheck {x : Operand} (ho : o.op = .nilCheck x) (h : SR C st a w Pr b xs vs) (hg : gOk gd) (hD : wD_nilCheck C.P C.fi m gd dst x st k) (hn : Goes C m st b a xs vs o.dst next k) :
    o.wp C.P a w next Q := by
  unfold wD_nilCheck at hD
  obtain ⟨u, hk, hr⟩ := h.un hD hg
  split at hk
  · simp only [share] at hr
    refine wp_quiet h hn hk hr ?_
    generalize hv : a.eval x = v at hr
    cases hr
    simp [execOp, ho, hv]
  · simp only [share] at hr
    refine wp_quiet h hn hk hr ?_
    generalize hv : a.eval x = v at hr
    cases hr
    simp [execOp, ho, hv]
  · simp only [share] at hr
    refine wp_quiet h hn hk hr ?_
    generalize hv : a.eval x = v at hr
    cases hr
    simp [execOp, ho, hv]
  · exact hk.elim

theorem s_unOp {op : UnOp} {t : TypeId} {x : Operand} (ho : o.op = .unOp op t x) (h : SR C st a w Pr b xs vs) (hg : gOk gd) (hD : wD_unOp C.P C.fi m gd dst op t x st k) (hn : Goes C m st b a xs vs o.dst next k) :
    o.wp C.P a w next Q := by
  unfold wD_unOp at hD
  obtain ⟨u, hk, hr⟩ := h.un hD hg
  split at hk
  · simp only [share] at hr
    generalize hv : a.eval x = v at hr
    cases hr
    exact wp_quiet h hn hk .bool (by simp [execOp, ho, hv, Op.unary])
  · simp only [share] at hr
    generalize hv : a.eval x = v at hr
    cases hr
    exact wp_quiet h hn hk .int (by simp [execOp, ho, hv, Op.unary, Op.intArith])
  · exact hk.elim

theorem s_makeFunc {f : FuncId} {first captured : Array Operand} (ho : o.op = .makeFunc (.func f) first captured) (h : SR C st a w Pr b xs vs) (hg : gOk gd)
    (hD : wD_makeFunc C.P C.fi m gd dst f first captured st k) (hn : Goes C m st b a xs vs o.dst next k) : o.wp C.P a w next Q := by
  obtain ⟨rfl, hp, hk⟩ := hD
  have key : ∀ l : List Operand, (l.map st.ev).all isPtr = true → Reps C.P w Pr (b :: C.bl0) (l.map st.ev) (l.map a.eval) [] := by
    intro l
    induction l with
    | nil => intro _; exact .nil
    | cons x l ih =>
      intro hp
      simp only [List.map_cons, List.all_cons, Bool.and_eq_true] at hp
      have hx := h.ev x
      have : share (st.ev x) = st.ev x := by
        have hp1 := hp.1
        generalize st.ev x = z at hp1
        cases z <;> first | (simp only [share]; done) | (simp [isPtr] at hp1; done)
      rw [this] at hx
      exact Reps.cons (L := []) (M := []) hx (ih hp.2)
  refine wp_quiet h hn hk (.fn (fun c hc => List.all_eq_true.1 hp c hc) (key _ hp)) ?_
  simp [execOp, ho, Instr.makeFunc, ← Array.toList_map]


theorem bytes_eq (x y : List UInt8) : (x == y) = decide (x = y) := by
  rw [Bool.eq_iff_iff, beq_iff_eq, decide_eq_true_iff]

theorem bool_beq (x y : Bool) : (x == y) = decide (x = y) := by cases x <;> cases y <;> rfl

theorem s_intBin {op : BinOp} {j j' : IntKind} {x y : Int} {kk : AC → Prop} {t : TypeId} (hg : gOk gd) (hD : intBin gd op j j' x y kk) :
    ∃ av v, kk av ∧ (∀ {P w Pr bl}, Rep P w Pr bl av v []) ∧ (binOp op t (.int j x) (.int j' y)).run C.P w = .ok v w := by
  unfold intBin at hD
  cases op <;> simp only at hD
  case shl =>
    refine ⟨_, _, hD.2, .int, ?_⟩
    have := hD.1 hg
    simp [binOp, Op.shift, Int.not_lt.2 this]
  case shr =>
    refine ⟨_, _, hD.2, .int, ?_⟩
    have := hD.1 hg
    simp [binOp, Op.shift, Int.not_lt.2 this]
  case quo => obtain ⟨rfl, h0, hk⟩ := hD; exact ⟨_, _, hk, .int, by simp [binOp, Op.intDiv, h0 hg]⟩
  case rem => obtain ⟨rfl, h0, hk⟩ := hD; exact ⟨_, _, hk, .int, by simp [binOp, Op.intDiv, h0 hg]⟩
  all_goals (obtain ⟨rfl, hk⟩ := hD)
  case and => exact ⟨_, _, hk, .int, by simp [binOp, Op.intBits, bitsOp]⟩
  case or => exact ⟨_, _, hk, .int, by simp [binOp, Op.intBits, bitsOp]⟩
  case xor => exact ⟨_, _, hk, .int, by simp [binOp, Op.intBits, bitsOp]⟩
  case andNot => exact ⟨_, _, hk, .int, by simp [binOp, Op.intBits, bitsOp]⟩
  case add => exact ⟨_, _, hk, .int, by simp [binOp, Op.intArith]⟩
  case sub => exact ⟨_, _, hk, .int, by simp [binOp, Op.intArith]⟩
  case mul => exact ⟨_, _, hk, .int, by simp [binOp, Op.intArith]⟩
  case neq => exact ⟨_, _, hk, .bool, by simp [binOp, Op.intCmp]; rfl⟩
  case eql => exact ⟨_, _, hk, .bool, by simp [binOp, Op.intCmp]; rfl⟩
  all_goals exact ⟨_, _, hk, .bool, by simp [binOp, Op.intCmp]⟩

theorem s_strBin {op : BinOp} {x y : ByteArray} {kk : AC → Prop} {t : TypeId} (hg : gOk gd) (hx : x.data.toList.length ≤ maxLen) (hy : y.data.toList.length ≤ maxLen) (hD : strBin gd op x.data.toList y.data.toList kk) :
    ∃ av v, kk av ∧ (∀ {P w Pr bl}, Rep P w Pr bl av v []) ∧ (binOp op t (.string x) (.string y)).run C.P w = .ok v w := by
  unfold strBin at hD
  have e1 : x.toList = x.data.toList := ByteArray.toList_eq x
  have e2 : y.toList = y.data.toList := ByteArray.toList_eq y
  cases op <;> simp only at hD
  case add =>
    have hl := hD.1 hg
    refine ⟨_, .string (x ++ y), hD.2, .str (by simp) (by simpa using hl), ?_⟩
    have hs : ¬ ((x.size + y.size : Nat) : Int) > IntKind.i64.max := by
      have a1 : x.size = x.data.toList.length := by rw [Array.length_toList]; rfl
      have a2 : y.size = y.data.toList.length := by rw [Array.length_toList]; rfl
      simp only [maxLen] at hl
      rw [IntKind.max_i64, a1, a2]; omega
    simp only [binOp, Op.stringOp, if_neg hs, Sem.run_pure]
  case eql => exact ⟨_, .bool (x.toList == y.toList), hD, by rw [e1, e2, bytes_eq]; exact .bool, rfl⟩
  case neq => exact ⟨_, .bool (!(x.toList == y.toList)), hD, by rw [e1, e2, bytes_eq]; exact .bool, rfl⟩
  case lss => exact ⟨_, _, hD, .bool, by simp only [binOp, Op.stringOp, e1, e2, bytes_eq, Sem.run_pure]⟩
  case leq => exact ⟨_, _, hD, .bool, by simp only [binOp, Op.stringOp, e1, e2, bytes_eq, Sem.run_pure]⟩
  case gtr => exact ⟨_, _, hD, .bool, by simp only [binOp, Op.stringOp, e1, e2, bytes_eq, Sem.run_pure]⟩
  case geq => exact ⟨_, _, hD, .bool, by simp only [binOp, Op.stringOp, e1, e2, bytes_eq, Sem.run_pure]⟩
  all_goals exact hD.elim

theorem s_binOp {op : BinOp} {t t' : TypeId} {x y : Operand} (ho : o.op = .binOp op t x y t') (h : SR C st a w Pr b xs vs) (hg : gOk gd) (hD : wD_binOp C.P C.fi m gd dst op t x y t' st k)
    (hn : Goes C m st b a xs vs o.dst next k) : o.wp C.P a w next Q := by
  unfold wD_binOp at hD
  split at hD
  · rename_i hy
    have ey : y = .const (.slice none 0 0) := by
      unfold isNilC at hy
      split at hy
      · rfl
      · cases hy
    subst ey
    obtain ⟨u, hk, r⟩ := h.un hD hg
    unfold nilCmp at hk
    split at hk
    · rename_i e o2 n cs ht
      obtain hu := tdOf_slice ht
      obtain ⟨hex, hk⟩ := hk
      generalize hsh : share (AC.sl o2 n cs) = sv at r
      obtain ⟨o3, cs3, rfl⟩ : ∃ o' cs', sv = .sl o' n cs' := by rw [← hsh]; cases o2 <;> first | exact ⟨_, _, rfl⟩ | (simp [Ow.isEx] at hex)
      generalize hv : a.eval x = z at r
      have hcase : ∃ (ad : Option Addr) (l c : Nat), z = .slice ad l c ∧ (ad.isNone = true → n = 0) := by
        cases r with
        | slNo _ _ _ _ _ => exact ⟨_, _, _, rfl, fun h => by cases h⟩
        | slNil => exact ⟨_, _, _, rfl, fun _ => rfl⟩
        | _ => exact ⟨_, _, _, rfl, fun h => by cases h⟩
      obtain ⟨ad, l, c, rfl, hn0⟩ := hcase
      exact wp_quiet h hn (hk _ hn0) .bool (by
        have hrn := run_equal_slice_nil w _ _ ad l c hu
        have hcst : a.eval (.const (.slice none 0 0)) = .slice none 0 0 := rfl
        simp [execOp, ho, hv, hcst, eqGuard_at_slice, binOp, hrn])
    · rename_i e o2 n cs ht
      obtain hu := tdOf_slice ht
      obtain ⟨hex, hk⟩ := hk
      generalize hsh : share (AC.sl o2 n cs) = sv at r
      obtain ⟨o3, cs3, rfl⟩ : ∃ o' cs', sv = .sl o' n cs' := by rw [← hsh]; cases o2 <;> first | exact ⟨_, _, rfl⟩ | (simp [Ow.isEx] at hex)
      generalize hv : a.eval x = z at r
      have hcase : ∃ (ad : Option Addr) (l c : Nat), z = .slice ad l c ∧ ((!ad.isNone) = false → n = 0) := by
        cases r with
        | slNo _ _ _ _ _ => exact ⟨_, _, _, rfl, fun h => by cases h⟩
        | slNil => exact ⟨_, _, _, rfl, fun _ => rfl⟩
        | _ => exact ⟨_, _, _, rfl, fun h => by cases h⟩
      obtain ⟨ad, l, c, rfl, hn0⟩ := hcase
      exact wp_quiet h hn (hk _ hn0) .bool (by
        have hrn := run_equal_slice_nil w _ _ ad l c hu
        have hcst : a.eval (.const (.slice none 0 0)) = .slice none 0 0 := rfl
        simp [execOp, ho, hv, hcst, eqGuard_at_slice, binOp, hrn])
    · exact hk.elim
  obtain ⟨u1, hk, r1⟩ := h.un hD hg
  obtain ⟨u2, hk, r2⟩ := h.un hk hg
  unfold wBin at hk
  split at hk
  · simp only [share] at r1 r2
    generalize hv1 : a.eval x = v1 at r1
    generalize hv2 : a.eval y = v2 at r2
    cases r1; cases r2
    obtain ⟨av, v, hk, hr, hrun⟩ := s_intBin (C := C) (w := w) (t := t) hg hk
    exact wp_quiet h hn hk hr (by simp [execOp, ho, hv1, hv2, eqGuard_at_int, hrun])
  · simp only [share] at r1 r2
    generalize hv1 : a.eval x = v1 at r1
    generalize hv2 : a.eval y = v2 at r2
    cases r1 with
    | str e1 l1 =>
      cases r2 with
      | str e2 l2 =>
        subst e1; subst e2
        obtain ⟨av, v, hk, hr, hrun⟩ := s_strBin (C := C) (w := w) (t := t) hg l1 l2 hk
        exact wp_quiet h hn hk hr (by simp [execOp, ho, hv1, hv2, eqGuard_at_string, hrun])
  · simp only [share] at r1 r2
    generalize hv1 : a.eval x = v1 at r1
    generalize hv2 : a.eval y = v2 at r2
    cases r1; cases r2
    rename_i x1 x2
    split at hk
    · rename_i ht
      have hu : C.P.underlying t = some .bool := tdOf_bool ht
      exact wp_quiet h hn hk .bool (by simp [execOp, ho, hv1, hv2, eqGuard_at_bool, binOp, Op.equal, Op.maxDepth, run_equalIn_bool' w _ t _ _ hu]; first | done | exact bool_beq _ _ | rw [bool_beq])
    · rename_i ht
      have hu : C.P.underlying t = some .bool := tdOf_bool ht
      exact wp_quiet h hn hk .bool (by simp [execOp, ho, hv1, hv2, eqGuard_at_bool, binOp, Op.equal, Op.maxDepth, run_equalIn_bool' w _ t _ _ hu]; first | done | exact bool_beq _ _ | rw [bool_beq])
    · exact hk.elim
  · exact absurd hg hk.1
  · exact absurd hg hk.1
  · exact hk.elim


theorem Reps.takeAt {P : Program} {bl : List (List Nat)} {cs : List AC} {vs : List Value} {L : List Nat} (h : Reps P w Pr bl cs vs L) : ∀ {i : Nat} {c : AC}, cs[i]? = some c →
    ∃ (v : Value) (Li L' : List Nat), vs[i]? = some v ∧ Rep P w Pr bl c v Li ∧ (∀ x, Li.count x + L'.count x = L.count x) ∧ ∀ (d : AC) (M : List Nat), Rep P w Pr bl d v M → ∃ L2, Reps P w Pr bl (cs.set i d) vs L2 ∧ ∀ x, L2.count x = L'.count x + M.count x := by
  induction cs generalizing vs L with
  | nil => intro i c hc; simp at hc
  | cons c0 cs ih =>
    intro i c hc
    cases h with
    | cons h1 h2 =>
      rename_i v0 vs0 L1 L2
      cases i with
      | zero =>
        simp only [List.getElem?_cons_zero, Option.some.injEq] at hc; subst hc
        exact ⟨v0, L1, L2, rfl, h1, fun x => by simp, fun d M hd => ⟨M ++ L2, .cons hd h2, fun x => by simp only [List.count_append]; omega⟩⟩
      | succ i =>
        simp only [List.getElem?_cons_succ] at hc
        obtain ⟨v, Li, L', g1, g2, g3, g4⟩ := ih h2 hc
        refine ⟨v, Li, L1 ++ L', by simpa using g1, g2, fun x => by have := g3 x; simp only [List.count_append]; omega, fun d M hd => ?_⟩
        obtain ⟨L3, k1, k2⟩ := g4 d M hd
        exact ⟨L1 ++ L3, .cons h1 k1, fun x => by have := k2 x; simp only [List.count_append]; omega⟩

theorem s_extract {x : Operand} {i : Nat} (ho : o.op = .extract x i) (h : SR C st a w Pr b xs vs) (hg : gOk gd) (hD : wD_extract C.P C.fi m gd o.dst x i st k) (hn : Goes C m st b a xs vs o.dst next k) :
    o.wp C.P a w next Q := by
  unfold wD_extract at hD
  obtain ⟨u, hk, hr0⟩ := un_rep hD
  split at hk
  · rename_i ws
    split at hk
    · rename_i v hv
      obtain ⟨Le, Ll, Lx, Lk, h0⟩ := h
      have full : ∃ L, Rep C.P w Pr (b :: C.bl0) (st.ev x) (a.eval x) L := by
        cases x with
        | tmp t => obtain ⟨L, hl, _⟩ := h0.get t; exact ⟨L, hl⟩
        | const v => exact ⟨[], rep_ofV v⟩
        | func f => exact ⟨[], .fn (by simp) .nil⟩
        | global g => exact ⟨[], .undef⟩
      obtain ⟨L, hf⟩ := full
      have hr := hr0 hg hf
      generalize hx : a.eval x = z at hr
      cases hr with
      | tup hr =>
        rename_i vals
        obtain ⟨y, Li, hy, hry, hc⟩ := hr.get hv
        have hrun : (execOp a.eval o).run C.P w = .ok (.value y) w := by
          have hy' : (vals.toArray)[i]? = some y := by simpa using hy
          simp [execOp, ho, hx, Instr.extract, hy]
        split at hk
        · rename_i hm
          split at hk
          · rename_i s
            have hne : st.get s ≠ .undef := by
              intro e
              simp only [St.ev, e, un] at hD
            obtain ⟨x', Lv, Lr, hx', hrv, hc', hset⟩ := h0.slot rfl hne
            have hxe : x' = .tuple vals.toArray := by
              rw [← hx]; simp only [Act.eval]; exact (getD_of hx').symm
            subst hxe
            have hrt := hr0 hg hrv
            generalize hq : Value.tuple vals.toArray = q at hrt
            cases hrt with
            | tup hrt =>
              rename_i vals'
              have hvv : vals = vals' := by simpa using hq
              subst hvv
              obtain ⟨y', Li', L', hy', hry', hc2, hput⟩ := hrt.takeAt hv
              have hyy : y' = y := by rw [hy] at hy'; cases hy'; rfl
              subst hyy
              obtain ⟨L2, hr2, hc3⟩ := hput .undef [] .undef
              obtain ⟨eK, kE, kL, hset⟩ := hset (.tup (ws.set i .undef))
              obtain ⟨Le', Ll', g1, g2, g3⟩ := hset w Pr _ L2 (fun c z M hM _ => hM) (.tup hr2)
              refine wp_val hrun (hn _ _ _ _ _ b hk ⟨Le', Ll', Li' ++ Lx, Lk, { h0 with env := g1, loc := g2, reg := .cons hry' h0.reg, K := by rw [eK]; exact h0.K, cnt := fun z => ?_, new := fun z hz => h0.new z ?_, kE := kE, kL := kL }⟩ fun e => by simp [e] at hm)
              · have := h0.cnt z; have := g3 z; have := hc' z; have := hc2 z; have := hc3 z
                simp only [List.count_append, List.count_nil] at *; omega
              · have := g3 z; have := hc' z; have := hc2 z; have := hc3 z
                simp only [List.count_append, List.count_nil] at *; omega
          · exact hk.elim
        · exact wp_quiet ⟨Le, Ll, Lx, Lk, h0⟩ hn hk hry.share hrun
    · exact hk.elim
  · exact hk.elim

def isAggD : TypeDesc → Bool
  | .struct _ => true
  | .array _ _ => true
  | _ => false

theorem run_isAgg_of {P : Program} {t : TypeId} {d : TypeDesc} (h : P.underlying t = some d) (w : World) : (isAgg t).run P w = .ok (isAggD d) w := by
  unfold isAgg
  rw [Sem.run_bind, run_underlying h]
  simp only [Result.andThen_ok]
  cases d <;> rfl

theorem run_sizeOf_of {P : Program} {t : TypeId} (h : 0 < P.cellsOf t) (w : World) : (sizeOf t).run P w = .ok (P.cellsOf t) w := by
  unfold Program.cellsOf at h ⊢
  cases hi : P.info? t with
  | none => simp [hi] at h
  | some i => simp [sizeOf, typeInfo, hi]

/-- A variable is read. -/
theorem run_loadVar_of {P : Program} {t : TypeId} (hg : goodTy P t) (hp : 0 < P.cellsOf t) {ad : Addr} {vals : List Value} (hl : vals.length = P.cellsOf t)
    (hc : ∀ j u, vals[j]? = some u → w.cell? (ad.add j) = some u) :
    ∃ v, (loadVar t ad).run P w = .ok v w ∧ ∀ {Pr bl cs L}, Reps P w Pr bl cs vals L → (∀ v ∈ vals, v.oneCell' = true) → ∃ M, Rep P w Pr bl (mkVal P t cs) v M ∧ ∀ x, M.count x ≤ L.count x := by
  obtain ⟨d, hu, hna, hst⟩ := goodTy_und hg
  by_cases hs : ∃ fs, tdOf P t = .struct fs
  · obtain ⟨fs, hfs⟩ := hs
    obtain ⟨gs, rfl⟩ := hst.2 ⟨fs, hfs⟩
    refine ⟨.agg vals.toArray, ?_, fun {Pr bl cs L} hr h1 => ⟨L, ?_, fun x => Nat.le_refl _⟩⟩
    · have := run_loadCells_list (P := P) w ad vals hc
      rw [hl] at this
      simp only [loadVar, Sem.run_bind, run_isAgg_of hu, Result.andThen_ok, isAggD, if_true, run_sizeOf_of hp, this, Sem.run_pure]
    · simp only [mkVal, hfs]; exact .agg hr h1
  · have hd : isAggD d = false := by
      cases d <;> first | rfl | exact absurd (hst.1 ⟨_, rfl⟩) hs | exact absurd rfl (hna _ _)
    have h0 : ∃ v, vals[0]? = some v := by
      cases vals with
      | nil => simp at hl; omega
      | cons v vs => exact ⟨v, rfl⟩
    obtain ⟨v, hv⟩ := h0
    have hcell := hc 0 v hv
    rw [Addr.add_zero'] at hcell
    refine ⟨v, ?_, fun {Pr bl cs L} hr h1 => ?_⟩
    · simp only [loadVar, Sem.run_bind, run_isAgg_of hu, Result.andThen_ok, hd, Bool.false_eq_true, if_false, run_load, hcell]
    · have e : mkVal P t cs = cs.headD .undef := by
        unfold mkVal; split
        · rename_i fs h; exact absurd ⟨fs, h⟩ hs
        · rfl
      rw [e]
      cases hr with
      | nil => exact ⟨[], .undef, fun x => by simp⟩
      | cons g1 g2 =>
        rename_i L1 M1
        simp only [List.getElem?_cons_zero, Option.some.injEq] at hv; subst hv
        exact ⟨L1, g1, fun x => by simp only [List.count_append]; omega⟩

theorem Reps.take_drop {P : Program} {bl : List (List Nat)} {cs : List AC} {vals : List Value} {L : List Nat} (hr : Reps P w Pr bl cs vals L) (i n : Nat) :
    ∃ L', Reps P w Pr bl ((cs.drop i).take n) ((vals.drop i).take n) L' ∧ ∀ x, L'.count x ≤ L.count x := by
  have hlen := hr.length
  rw [← List.take_append_drop i cs] at hr
  obtain ⟨v1, v2, L1, L2, rfl, rfl, hl1, _, h2⟩ := hr.split
  rw [← List.take_append_drop n (cs.drop i)] at h2
  obtain ⟨u1, u2, M1, M2, rfl, rfl, hl2, h3, _⟩ := h2.split
  refine ⟨M1, ?_, fun x => by simp only [List.count_append]; omega⟩
  have e : ((v1 ++ (u1 ++ u2)).drop i).take n = u1 := by
    simp only [List.length_take] at hl1
    simp only [List.length_append, List.length_take, List.length_drop] at hlen hl2
    by_cases hi : i ≤ cs.length
    · have hv1 : v1.length = i := by omega
      rw [List.drop_append_of_le_length (by omega), ← hv1, List.drop_length, List.nil_append]
      by_cases hn : n ≤ cs.length - i
      · have : u1.length = n := by omega
        rw [List.take_append_of_le_length (by omega), List.take_of_length_le (by omega)]
      · have hu2 : u2 = [] := List.eq_nil_of_length_eq_zero (by omega)
        rw [hu2, List.append_nil, List.take_of_length_le (by omega)]
    · have hu : u1 = [] := List.eq_nil_of_length_eq_zero (by omega)
      have hu2 : u2 = [] := List.eq_nil_of_length_eq_zero (by omega)
      rw [hu, hu2]; simp; right; omega
  rw [e]; exact h3
end
end Go.Proofs.YtkefgpmnimpcdaaGreatDoor.Abs
/- The boxes: one is found, one is changed, one is made. No condition. -/
set_option linter.unusedVariables false
set_option linter.unusedSimpArgs false
namespace Go.Proofs.YtkefgpmnimpcdaaGreatDoor.Abs
open Go
section
variable {P : Program} {w : World} {Pr : Addr → Prop}

theorem RepF.set {bl : List (List Nat)} {f : List (List AC)} {gs : List Nat} {L : List Nat} (h : RepF P w Pr bl f gs L) {i : Nat} {cells : List AC} {g : Nat} (hc : f[i]? = some cells) (hg : gs[i]? = some g) (hnd : ∀ x, gs.count x ≤ 1) :
    ∃ (cur : Array Value) (T : TypeId) (Li Lr : List Nat), w.heap[g]? = some (.cells cur T (0, 0)) ∧ Reps P w Pr bl cells cur.toList Li ∧ (∀ v ∈ cur.toList, v.oneCell' = true) ∧ (∀ a, Pr a → a.block ≠ g) ∧ (∀ x, L.count x = Li.count x + Lr.count x) ∧
      ∀ w' Pr' c' cur' L', w'.heap[g]? = some (.cells cur' T (0, 0)) → Reps P w' Pr' bl c' cur'.toList L' → (∀ v ∈ cur'.toList, v.oneCell' = true) → (∀ a, Pr' a → a.block ≠ g) →
        (∀ a, Pr a → Pr' a ∧ w'.cell? a = w.cell? a) → (∀ x ∈ Lr, Kept w Pr w' Pr' x) → (∀ x ∈ gs, x ≠ g → Kept w Pr w' Pr' x) →
        ∃ L2, RepF P w' Pr' bl (f.set i c') gs L2 ∧ ∀ x, L2.count x = L'.count x + Lr.count x := by
  induction f generalizing gs L i with
  | nil => simp at hc
  | cons c f ih =>
    obtain ⟨g0, gs', cur, T, L1, L2, rfl, hh, hr, h1, hpr, hF, rfl⟩ := h
    cases i with
    | zero =>
      simp only [List.getElem?_cons_zero, Option.some.injEq] at hc hg
      subst hc; subst hg
      refine ⟨cur, T, L1, L2, hh, hr, h1, hpr, fun x => by simp, ?_⟩
      intro w' Pr' c' cur' L' k1 k2 k3 k4 k5 k6 k7
      refine ⟨L' ++ L2, ⟨_, _, cur', T, L', L2, rfl, k1, k2, k3, k4, hF.kept k5 k6 (fun x hx => k7 x (List.mem_cons_of_mem _ hx) fun e => ?_), rfl⟩, fun x => by simp⟩
      subst e
      have := hnd x
      rw [List.count_cons_self] at this
      have := List.count_pos_iff.2 hx
      omega
    | succ i =>
      simp only [List.getElem?_cons_succ] at hc hg
      have hnd' : ∀ x, gs'.count x ≤ 1 := fun x => by have := hnd x; rw [List.count_cons] at this; omega
      obtain ⟨cur1, T1, Li, Lr, e1, e2, e3, e4, e5, e6⟩ := ih hF hc hg hnd'
      refine ⟨cur1, T1, Li, L1 ++ Lr, e1, e2, e3, e4, fun x => by simp only [List.count_append]; have := e5 x; omega, ?_⟩
      intro w' Pr' c' cur' L' k1 k2 k3 k4 k5 k6 k7
      obtain ⟨L2', r1, r2⟩ := e6 w' Pr' c' cur' L' k1 k2 k3 k4 k5 (fun x hx => k6 x (List.mem_append_right _ hx)) (fun x hx hne => k7 x (List.mem_cons_of_mem _ hx) hne)
      have hne : g0 ≠ g := by
        intro e; subst e
        have := hnd g0
        rw [List.count_cons_self] at this
        have := List.count_pos_iff.2 (List.mem_of_getElem? hg)
        omega
      have hk0 := k7 g0 List.mem_cons_self hne
      refine ⟨L1 ++ L2', ⟨g0, gs', cur, T, L1, L2', rfl, hk0.heap.trans hh, hr.kept k5 (fun x hx => k6 x (List.mem_append_left _ hx)), h1, fun a ha e => hpr a (hk0.pr a ha e) e, r1, rfl⟩, fun x => by simp only [List.count_append]; have := r2 x; omega⟩

theorem RepK.set {bl : List (List Nat)} {K : List (List (List AC))} {L : List Nat} (h : RepK P w Pr K bl L) {u i : Nat} {cells : List AC} {g : Nat} (hc : getBox K u i = some cells) (hg : (bl[u]?).bind (·[i]?) = some g)
    (hnd : ∀ x, bl.flatten.count x ≤ 1) :
    ∃ (cur : Array Value) (T : TypeId) (Li Lr : List Nat), w.heap[g]? = some (.cells cur T (0, 0)) ∧ Reps P w Pr (bl.drop u) cells cur.toList Li ∧ (∀ v ∈ cur.toList, v.oneCell' = true) ∧ (∀ a, Pr a → a.block ≠ g) ∧ g ∈ bl.flatten ∧ (∀ x, L.count x = Li.count x + Lr.count x) ∧
      ∀ w' Pr' c' cur' L', w'.heap[g]? = some (.cells cur' T (0, 0)) → Reps P w' Pr' (bl.drop u) c' cur'.toList L' → (∀ v ∈ cur'.toList, v.oneCell' = true) → (∀ a, Pr' a → a.block ≠ g) →
        (∀ a, Pr a → Pr' a ∧ w'.cell? a = w.cell? a) → (∀ x ∈ Lr, Kept w Pr w' Pr' x) → (∀ x ∈ bl.flatten, x ≠ g → Kept w Pr w' Pr' x) →
        ∃ L2, RepK P w' Pr' (setBox K u i c') bl L2 ∧ ∀ x, L2.count x = L'.count x + Lr.count x := by
  induction K generalizing bl L u with
  | nil => simp [getBox] at hc
  | cons f K ih =>
    obtain ⟨b, bl', L1, L2, rfl, hF, hK, rfl⟩ := h
    have hb : ∀ x, b.count x + bl'.flatten.count x ≤ 1 := fun x => by have := hnd x; simpa using this
    cases u with
    | zero =>
      simp only [getBox, List.getElem?_cons_zero, Option.bind_some] at hc hg
      obtain ⟨cur, T, Li, Lr, e1, e2, e3, e4, e5, e6⟩ := hF.set hc hg (fun x => by have := hb x; omega)
      refine ⟨cur, T, Li, Lr ++ L2, e1, e2, e3, e4, by simp [List.mem_of_getElem? hg], fun x => by simp only [List.count_append]; have := e5 x; omega, ?_⟩
      intro w' Pr' c' cur' L' k1 k2 k3 k4 k5 k6 k7
      obtain ⟨L2', r1, r2⟩ := e6 w' Pr' c' cur' L' k1 k2 k3 k4 k5 (fun x hx => k6 x (List.mem_append_left _ hx)) (fun x hx hne => k7 x (by simp [hx]) hne)
      have hK' : RepK P w' Pr' K bl' L2 := hK.kept k5 (fun x hx => k6 x (List.mem_append_right _ hx)) (fun x hx => k7 x (by simpa using .inr (by simpa using hx)) (fun e => by
        subst e
        have := hb x
        have := List.count_pos_iff.2 (List.mem_of_getElem? hg)
        have := List.count_pos_iff.2 hx
        omega))
      refine ⟨L2' ++ L2, ?_, fun x => by simp only [List.count_append]; have := r2 x; omega⟩
      simp only [setBox, List.getElem?_cons_zero, List.set_cons_zero]
      exact ⟨b, bl', L2', L2, rfl, r1, hK', rfl⟩
    | succ u =>
      simp only [getBox, List.getElem?_cons_succ] at hc
      simp only [List.getElem?_cons_succ] at hg
      obtain ⟨cur, T, Li, Lr, e1, e2, e3, e4, e0, e5, e6⟩ := ih hK hc hg (fun x => by have := hb x; omega)
      refine ⟨cur, T, Li, L1 ++ Lr, e1, e2, e3, e4, by simpa using .inr (by simpa using e0), fun x => by simp only [List.count_append]; have := e5 x; omega, ?_⟩
      intro w' Pr' c' cur' L' k1 k2 k3 k4 k5 k6 k7
      obtain ⟨L2', r1, r2⟩ := e6 w' Pr' c' cur' L' k1 k2 k3 k4 k5 (fun x hx => k6 x (List.mem_append_right _ hx)) (fun x hx hne => k7 x (by simpa using .inr (by simpa using hx)) hne)
      have hF' : RepF P w' Pr' (b :: bl') f b L1 := hF.kept k5 (fun x hx => k6 x (List.mem_append_left _ hx)) (fun x hx => k7 x (by simp [hx]) (fun e => by
        subst e
        have := hb x
        have := List.count_pos_iff.2 hx
        have := List.count_pos_iff.2 e0
        omega))
      refine ⟨L1 ++ L2', ?_, fun x => by simp only [List.count_append]; have := r2 x; omega⟩
      have es : setBox (f :: K) (u + 1) i c' = f :: setBox K u i c' := by
        simp only [setBox, List.getElem?_cons_succ]
        cases K[u]? <;> simp
      rw [es]
      exact ⟨b, bl', L1, L2', rfl, hF', r1, rfl⟩

theorem RepF.push {bl : List (List Nat)} {f : List (List AC)} {gs : List Nat} {L : List Nat} (h : RepF P w Pr bl f gs L) {c : List AC} {g : Nat} {cur : Array Value} {T : TypeId} {L1 : List Nat}
    (h1 : w.heap[g]? = some (.cells cur T (0, 0))) (h2 : Reps P w Pr bl c cur.toList L1) (h3 : ∀ v ∈ cur.toList, v.oneCell' = true) (h4 : ∀ a, Pr a → a.block ≠ g) :
    ∃ L2, RepF P w Pr bl (f ++ [c]) (gs ++ [g]) L2 ∧ ∀ x, L2.count x = L.count x + L1.count x := by
  induction f generalizing gs L with
  | nil =>
    obtain ⟨rfl, rfl⟩ := h
    exact ⟨L1, ⟨g, [], cur, T, L1, [], rfl, h1, h2, h3, h4, ⟨rfl, rfl⟩, by simp⟩, fun x => by simp⟩
  | cons c0 f ih =>
    obtain ⟨g0, gs', cur0, T0, L1', L2', rfl, hh, hr, k1, hpr, hF, rfl⟩ := h
    obtain ⟨L2, r1, r2⟩ := ih hF
    exact ⟨L1' ++ L2, ⟨g0, gs' ++ [g], cur0, T0, L1', L2, rfl, hh, hr, k1, hpr, r1, rfl⟩, fun x => by simp only [List.count_append]; have := r2 x; omega⟩
end
end Go.Proofs.YtkefgpmnimpcdaaGreatDoor.Abs
/- Boxes are read, written and made as the weakest precondition says. No condition. -/
set_option linter.unusedVariables false
set_option linter.unusedSimpArgs false
namespace Go.Proofs.YtkefgpmnimpcdaaGreatDoor.Abs
open Go
section
variable {P : Program} {w : World} {Pr : Addr → Prop}

theorem Rep.flat {bl bl' : List (List Nat)} {c : AC} {v : Value} {L : List Nat} (h : Rep P w Pr bl c v L) (hf : Abs.flat c = true) : Rep P w Pr bl' c v L := by
  cases h with
  | bool => exact .bool
  | int => exact .int
  | str h h' => exact .str h h'
  | slNo h1 h2 h3 h4 h5 => exact .slNo h1 h2 h3 h4 h5
  | slNil => exact .slNil
  | slOf h1 h2 h3 h4 h5 h6 h7 h8 h9 h10 => exact .slOf h1 h2 h3 h4 h5 h6 h7 h8 h9 h10
  | undef => exact .undef
  | slEx h1 h2 h3 h4 h5 h6 h7 h8 h9 => exact .slEx h1 h2 h3 h4 h5 h6 h7 h8 h9
  | nam => simp [Abs.flat] at hf
  | ept => simp [Abs.flat] at hf
  | als => simp [Abs.flat] at hf
  | alsA => simp [Abs.flat] at hf
  | agg => simp [Abs.flat] at hf
  | tup => simp [Abs.flat] at hf
  | ptr => simp [Abs.flat] at hf
  | ref => simp [Abs.flat] at hf
  | fn => simp [Abs.flat] at hf
  | optT => simp [Abs.flat] at hf
  | optF => simp [Abs.flat] at hf

theorem Reps.flat {bl bl' : List (List Nat)} {cs : List AC} {vals : List Value} {L : List Nat} (h : Reps P w Pr bl cs vals L) (hf : cs.all Abs.flat = true) : Reps P w Pr bl' cs vals L := by
  induction cs generalizing vals L with
  | nil => cases h; exact .nil
  | cons c cs ih =>
    simp only [List.all_cons, Bool.and_eq_true] at hf
    cases h with | cons h1 h2 => exact .cons (h1.flat hf.1) (ih h2 hf.2)

theorem Reps.put {bl : List (List Nat)} {cells new : List AC} {vals nvals : List Value} {L Ln : List Nat} (h : Reps P w Pr bl cells vals L) (hn : Reps P w Pr bl new nvals Ln) {off : Nat} (hl : off + new.length ≤ cells.length) :
    ∃ (Lm Lr L' : List Nat), Reps P w Pr bl ((cells.drop off).take new.length) ((vals.drop off).take new.length) Lm ∧
      Reps P w Pr bl (putCells cells off new) (vals.take off ++ nvals ++ vals.drop (off + new.length)) L' ∧ (∀ x, L'.count x = Lr.count x + Ln.count x) ∧ (∀ x, L.count x = Lm.count x + Lr.count x) := by
  have hlen := h.length
  have e : cells = cells.take off ++ ((cells.drop off).take new.length ++ cells.drop (off + new.length)) := by
    rw [← List.drop_drop, List.take_append_drop, List.take_append_drop]
  have h0 := h
  rw [e] at h0
  obtain ⟨v1, v2, L1, L2, rfl, rfl, hl1, h1, h2⟩ := h0.split
  obtain ⟨u1, u2, M1, M2, rfl, rfl, hl2, h3, h4⟩ := h2.split
  simp only [List.length_take, List.length_drop] at hl1 hl2
  have k1 : v1.length = off := by omega
  have k2 : u1.length = new.length := by omega
  have d1 : (v1 ++ (u1 ++ u2)).drop off = u1 ++ u2 := by rw [← k1]; exact List.drop_left
  have d2 : (v1 ++ (u1 ++ u2)).drop (off + new.length) = u2 := by rw [← List.drop_drop, d1, ← k2]; exact List.drop_left
  have d3 : (v1 ++ (u1 ++ u2)).take off = v1 := by rw [← k1]; exact List.take_left
  refine ⟨M1, L1 ++ M2, (L1 ++ Ln) ++ M2, ?_, ?_, fun x => by simp only [List.count_append]; omega, fun x => by simp only [List.count_append]; omega⟩
  · rw [d1, ← k2, List.take_left, k2]; exact h3
  · rw [d2, d3]
    exact (h1.append hn).append h4

theorem shareL_length (cs : List AC) : (shareL cs).length = cs.length := by rw [shareL_eq]; simp

variable {C : Cx} {st : St} {a : Act} {w' : World} {Pr' : Addr → Prop} {b : List Nat} {xs : List AC} {vs : List Value} {m : Bool} {gd : Option Bool} {dst : Option Nat}
  {next : Act → World → Prop} {Q : Exit → Act → World → Prop} {k : AC → St → Prop} {o : Oper}

theorem SRL.box_cnt {Le Ll Lx Lk} (h : SRL C st a w Pr b xs vs Le Ll Lx Lk) : ∀ x, (b :: C.bl0).flatten.count x ≤ 1 := fun x => by have := h.cnt x; omega

theorem lift_box {bl : List (List Nat)} {K : List (List (List AC))} {u i : Nat} {cells : List AC} {L : List Nat} (hK : RepK P w Pr K bl L) (hc : getBox K u i = some cells) :
    Moves (bl.drop u) bl (liftP u) := by
  have hu : u ≤ bl.length := by
    have hlen : ∀ (K : List (List (List AC))) (bl : List (List Nat)) (L : List Nat), RepK P w Pr K bl L → K.length = bl.length := by
      intro K
      induction K with
      | nil => intro bl L h; rw [h.1]; rfl
      | cons f K ih => intro bl L h; obtain ⟨b, bl', L1, L2, rfl, _, hK, _⟩ := h; simp [ih _ _ hK]
    rw [← hlen K bl L hK]
    unfold getBox at hc
    cases hk : K[u]? with
    | none => simp [hk] at hc
    | some f => exact Nat.le_of_lt (List.getElem?_eq_some_iff.1 hk).1
  have := moves_lift u (bl.take u) (bl.drop u) (by simp; omega)
  rwa [List.take_append_drop] at this

theorem rep_len {P : Program} {bl : List (List Nat)} {o : Ow} {n : Nat} {cs : List AC} {base : Option Addr} {l cap : Nat} {L : List Nat} (h : Rep P w Pr bl (.sl o n cs) (.slice base l cap) L) : l = n ∧ n ≤ maxLen := by
  cases h with
  | slNo _ _ _ h4 h5 => exact ⟨rfl, Nat.le_trans h4 h5⟩
  | slNil => exact ⟨rfl, Nat.zero_le _⟩
  | slOf _ _ _ h4 h5 => exact ⟨rfl, Nat.le_trans h4 h5⟩
  | slEx _ _ _ h4 h5 => exact ⟨rfl, Nat.le_trans h4 h5⟩

theorem als_vals {P : Program} {Pr : Addr → Prop} {bl : List (List Nat)} : ∀ {vals vals' : List Value} {L : List Nat}, Reps P w Pr bl (vals.map fun x => .als 0 none x none) vals' L → vals' = vals := by
  intro vals
  induction vals with
  | nil => intro vals' L h; cases h; rfl
  | cons x vals ih =>
    intro vals' L h
    cases h with
    | cons q1 q2 =>
      have hx := ih q2
      cases q1
      rw [hx]
/-- The value of a struct's load. -/
theorem agg_val {P : Program} {Pr0 : Addr → Prop} {t : TypeId} {fs : List (Nat × Nat × TypeId)} {vals : List Value} {v : Value} (hts : tdOf P t = .struct fs)
    (hrep : ∀ {Pr bl cs L}, Reps P w Pr bl cs vals L → (∀ v ∈ vals, v.oneCell' = true) → ∃ M, Rep P w Pr bl (mkVal P t cs) v M ∧ ∀ x, M.count x ≤ L.count x) (h1 : ∀ v ∈ vals, v.oneCell' = true) : v = .agg vals.toArray := by
  have hr : Reps P w Pr0 [] (vals.map fun x => .als 0 none x none) vals [] := by
    clear hrep h1
    induction vals with
    | nil => exact .nil
    | cons x vals ih => exact Reps.cons (L := []) (M := []) .alsA ih
  obtain ⟨M, hM, _⟩ := hrep hr h1
  have e2 : mkVal P t (vals.map fun x => .als 0 none x none) = .agg (vals.map fun x => .als 0 none x none) := by unfold mkVal; rw [hts]
  rw [e2] at hM
  cases hM with
  | agg g1 g2 => exact congrArg (fun l => Value.agg (List.toArray l)) (als_vals g1)
theorem Rep.own_nil {bl : List (List Nat)} {c : AC} {v : Value} {L : List Nat} (h : Rep P w Pr bl c v L) (hf : Abs.flat c = true) (ho : ownC c = false) : L = [] := by
  cases h with
  | slOf => simp [ownC] at ho
  | slEx => simp [ownC] at ho
  | agg => simp [Abs.flat] at hf
  | tup => simp [Abs.flat] at hf
  | nam => simp [Abs.flat] at hf
  | optT => simp [Abs.flat] at hf
  | _ => rfl
/-- Cells whose owners are lent. -/
theorem Reps.als {bl : List (List Nat)} (d : Nat) : ∀ {cells : List AC} {vals : List Value} {L : List Nat}, Reps P w Pr bl cells vals L → cells.all Abs.flat = true → Reps P w Pr bl (alsC d cells vals) vals [] ∧ True := by
  intro cells
  induction cells with
  | nil => intro vals L h _; cases h; exact ⟨.nil, trivial⟩
  | cons c cs ih =>
    intro vals L h hf
    simp only [List.all_cons, Bool.and_eq_true] at hf
    cases h with
    | cons h1 h2 =>
      have ih := (ih h2 hf.2).1
      simp only [alsC]
      cases ho : ownC c with
      | true => exact ⟨Reps.cons (L := []) (M := []) .alsA ih, trivial⟩
      | false =>
        have e := h1.own_nil hf.1 ho
        rw [e] at h1
        exact ⟨Reps.cons (L := []) (M := []) h1 ih, trivial⟩
theorem Reps.flatR {bl bl' : List (List Nat)} : ∀ {cells : List AC} {vals : List Value} {L : List Nat}, Reps P w Pr bl cells vals L → cells.all Abs.flat = true → Reps P w Pr bl' cells vals L := by
  intro cells
  induction cells with
  | nil => intro vals L h _; cases h; exact .nil
  | cons c cs ih =>
    intro vals L h hf
    simp only [List.all_cons, Bool.and_eq_true] at hf
    cases h with
    | cons h1 h2 => exact .cons (h1.flat hf.1) (ih h2 hf.2)
theorem Reps.namR {bl : List (List Nat)} : ∀ {cells : List AC} {vals : List Value} {L : List Nat}, Reps P w Pr bl cells vals L → Reps P w Pr bl (namC cells vals) vals L := by
  intro cells
  induction cells with
  | nil => intro vals L h; cases h; exact .nil
  | cons c cs ih =>
    intro vals L h
    cases h with
    | cons h1 h2 =>
      simp only [namC]
      cases ho : ownC c with
      | true => exact .cons (.nam h1) (ih h2)
      | false => exact .cons h1 (ih h2)
theorem Reps.alsBR {bl : List (List Nat)} (s : Nat) : ∀ {cells : List AC} {vals : List Value} {L : List Nat} (j : Nat), Reps P w Pr bl cells vals L → cells.all Abs.flat = true → Reps P w Pr bl (alsB s j cells vals) vals [] := by
  intro cells
  induction cells with
  | nil => intro vals L j h _; cases h; exact .nil
  | cons c cs ih =>
    intro vals L j h hf
    simp only [List.all_cons, Bool.and_eq_true] at hf
    cases h with
    | cons h1 h2 =>
      have ih := ih (j + 1) h2 hf.2
      simp only [alsB]
      cases ho : ownC c with
      | true => exact Reps.cons (L := []) (M := []) .alsA ih
      | false =>
        have e := h1.own_nil hf.1 ho
        rw [e] at h1
        exact Reps.cons (L := []) (M := []) h1 ih
theorem s_load {t : TypeId} {x : Operand} (ho : o.op = .load t x) (h : SR C st a w Pr b xs vs) (hg : gOk gd) (hD : wD_load C.P C.fi m gd o.dst t x st k) (hn : Goes C m st b a xs vs o.dst next k) :
    o.wp C.P a w next Q := by
  obtain ⟨hpos, hgood, hD⟩ := hD
  obtain ⟨u, hk, hr⟩ := h.un hD hg
  split at hk
  · rename_i uu i off
    split at hk
    · rename_i cells hbox
      obtain ⟨hfit, hk⟩ := hk
      simp only [share] at hr
      generalize hv : a.eval x = z at hr
      cases hr with
      | ptr hgb =>
        rename_i g
        obtain ⟨Le, Ll, Lx, Lk, h0⟩ := h
        obtain ⟨cur, T, Li, Lr, hh, hcs, h1, hpr, hmem, hcnt, hset⟩ := h0.K.set hbox hgb h0.box_cnt
        have hlen := hcs.length
        have hvl : ((cur.toList.drop off).take (C.P.cellsOf t)).length = C.P.cellsOf t := by
          simp only [List.length_take, List.length_drop]; omega
        have hcell : ∀ j v, ((cur.toList.drop off).take (C.P.cellsOf t))[j]? = some v → w.cell? ((⟨g, off, none⟩ : Addr).add j) = some v := by
          intro j v hj
          rw [Addr.add_lit, cell_of_row w _ _ _ _ _ hh]
          rw [List.getElem?_take] at hj
          split at hj
          · rw [List.getElem?_drop] at hj
            simpa using hj
          · cases hj
        obtain ⟨v, hrun, hrep⟩ := run_loadVar_of (w := w) hgood hpos hvl hcell
        have h1' : ∀ v ∈ (cur.toList.drop off).take (C.P.cellsOf t), v.oneCell' = true := fun v hv => h1 v (List.mem_of_mem_drop (List.mem_of_mem_take hv))
        have hrun' : (execOp a.eval o).run C.P w = .ok (.value v) w := by
          simp only [execOp, ho, hv, Instr.loadAt, Instr.sureAddr, Sem.run_bind, Sem.run_pure, Result.andThen_ok, hrun]
        have hmv := lift_box h0.K hbox
        split at hk
        · rename_i hm
          have hm1 : m = true := by cases m <;> simp at hm ⊢
          -- what is loaded is what the box holds
          have hval : ∀ {v0 : Value} {e2 : TypeId}, tdOf C.P t = .slice e2 → C.P.cellsOf t = 1 → cur.toList[off]? = some v0 → v = v0 := by
            intro v0 e2 hts hone hv0
            have e1 : (cur.toList.drop off).take (C.P.cellsOf t) = [v0] := by
              rw [hone]
              obtain ⟨hlt, he⟩ := List.getElem?_eq_some_iff.1 hv0
              rw [List.drop_eq_getElem_cons hlt, he]; rfl
            rw [e1] at hrep h1'
            obtain ⟨M, hM, _⟩ := hrep (Pr := Pr) (bl := []) (cs := [.als 0 none v0 none]) (L := []) (Reps.cons (L := []) (M := []) .alsA .nil) h1'
            have e2 : mkVal C.P t [.als 0 none v0 none] = .als 0 none v0 none := by unfold mkVal; rw [hts]; rfl
            rw [e2] at hM
            generalize v = q at hM
            cases hM
            rfl
          unfold wKeep at hk
          split at hk
          · rename_i e2 dd e n cs hts hdst hco
            obtain ⟨hone, hk⟩ := hk
            obtain ⟨v0, Li1, Lr1, hv0, hr0, hc0, hput⟩ := hcs.takeAt hco
            obtain ⟨L2', hnew, hc2⟩ := hput (.als dd none v0 none) [] .alsA
            obtain ⟨L2, hK2, c3⟩ := hset w Pr _ cur L2' hh hnew h1 hpr (fun p hp => ⟨hp, rfl⟩) (fun x hx => ⟨rfl, fun p hp _ => hp⟩) (fun x hx _ => ⟨rfl, fun p hp _ => hp⟩)
            have e0 := hval hts hone hv0
            subst e0
            refine wp_val hrun' (hn _ _ _ _ Pr b (hk v) ⟨Le, Ll, Li1 ++ Lx, L2, { h0 with reg := .cons (.nam (hr0.flat rfl).nilbl) h0.reg, K := hK2, cnt := fun x => ?_, new := fun x hx => h0.new x ?_ }⟩ fun e => by rw [hm1] at e; cases e)
            · have := h0.cnt x; have := hc0 x; have := hc2 x; have := c3 x; have := hcnt x
              simp only [List.count_append, List.count_nil] at *; omega
            · have := hc0 x; have := hc2 x; have := c3 x; have := hcnt x
              simp only [List.count_append, List.count_nil] at *; omega
          · rename_i e2 dd s y nn hts hdst hco
            obtain ⟨hone, hk⟩ := hk
            obtain ⟨v0, Li1, Lr1, hv0, hr0, hc0, hput⟩ := hcs.takeAt hco
            have e0 := hval hts hone hv0
            subst e0
            split at hk
            · rename_i y' v' hs'
              obtain ⟨rfl, hk⟩ := hk
              have ey : v = y' := by generalize v = q at hr0; cases hr0 <;> rfl
              have hsr := SR.take (⟨Le, Ll, Lx, Lk, h0⟩ : SR C st a w Pr b xs vs) s
              rw [hs'] at hsr
              have hx : a.tmps.getD s undef = v := by
                obtain ⟨_, _, _, _, h9⟩ := hsr
                cases h9.reg with
                | cons q1 q2 => rw [ey]; exact q1.nam_val.symm
              rw [hx] at hsr
              refine wp_val hrun' (hn _ _ _ _ Pr b hk (hsr.weaken fun L hr => ⟨L, hr.nam_inv, fun x => Nat.le_refl _⟩) fun e => by rw [hm1] at e; cases e)
            · exact hk.elim
          · rename_i fs dd hts hdd
            obtain ⟨rfl, hlc, hfl, hk⟩ := hk
            have etk : (cur.toList.drop 0).take (C.P.cellsOf t) = cur.toList := by
              rw [List.drop_zero, List.take_of_length_le (by omega)]
            rw [etk] at hrep h1'
            have ev := agg_val (P := C.P) (w := w) (Pr0 := Pr) hts hrep h1'
            obtain ⟨hals, hown⟩ := hcs.als dd hfl
            obtain ⟨L2, hK2, c3⟩ := hset w Pr _ cur [] hh hals h1 hpr (fun p hp => ⟨hp, rfl⟩) (fun x hx => ⟨rfl, fun p hp _ => hp⟩) (fun x hx _ => ⟨rfl, fun p hp _ => hp⟩)
            have hrv : Rep C.P w Pr (b :: C.bl0) (.agg cells) v Li := by rw [ev]; exact .agg (hcs.flatR hfl) h1'
            refine wp_val hrun' (hn _ _ _ _ Pr b (hk v cur.toList ev (by omega)) ⟨Le, Ll, Li ++ Lx, L2, { h0 with reg := .cons (.nam hrv) h0.reg, K := hK2, cnt := fun x => ?_, new := fun x hx => h0.new x ?_ }⟩ fun e => by rw [hm1] at e; cases e)
            · have := h0.cnt x; have := c3 x; have := hcnt x
              simp only [List.count_append, List.count_nil] at *; omega
            · have := c3 x; have := hcnt x
              simp only [List.count_append, List.count_nil] at *; omega
          · exact hk.elim
        split at hk
        · rename_i hm
          have hm1 : m = true := by cases m <;> simp at hm ⊢
          obtain ⟨Lm, Lr2, L', hmid, hput, c1, c2⟩ := hcs.put (new := shareL ((cells.drop off).take (C.P.cellsOf t))) (nvals := (cur.toList.drop off).take (C.P.cellsOf t)) (Ln := []) (off := off)
            (by obtain ⟨L0, hl0, _⟩ := hcs.take_drop off (C.P.cellsOf t); exact hl0.share) (by rw [shareL_length]; simp only [List.length_take, List.length_drop]; omega)
          have hsl : (shareL ((cells.drop off).take (C.P.cellsOf t))).length = C.P.cellsOf t := by rw [shareL_length]; simp only [List.length_take, List.length_drop]; omega
          rw [hsl] at hmid hput
          have ecur : cur.toList.take off ++ (cur.toList.drop off).take (C.P.cellsOf t) ++ cur.toList.drop (off + C.P.cellsOf t) = cur.toList := by
            rw [List.append_assoc, ← List.drop_drop, List.take_append_drop, List.take_append_drop]
          rw [ecur] at hput
          obtain ⟨L2, hK2, c3⟩ := hset w Pr _ cur L' hh hput h1 hpr (fun p hp => ⟨hp, rfl⟩) (fun x hx => ⟨rfl, fun p hp _ => hp⟩) (fun x hx _ => ⟨rfl, fun p hp _ => hp⟩)
          obtain ⟨Lm', hmidl, c4⟩ := Reps.mapC hmv hmid
          obtain ⟨M, hrepv, c5⟩ := hrep hmidl h1'
          refine wp_val hrun' (hn _ _ _ _ Pr b hk ⟨Le, Ll, M ++ Lx, L2, { h0 with reg := .cons hrepv h0.reg, K := hK2, cnt := fun x => ?_, new := fun x hx => h0.new x ?_ }⟩ fun e => by rw [hm1] at e; cases e)
          · have := h0.cnt x; have := c1 x; have := c2 x; have := c3 x; have := c4 x; have := c5 x; have := hcnt x
            simp only [List.count_append, List.count_nil] at *; omega
          · have := c1 x; have := c2 x; have := c3 x; have := c4 x; have := c5 x; have := hcnt x
            simp only [List.count_append, List.count_nil] at *; omega
        · obtain ⟨L0, hl0, _⟩ := hcs.take_drop off (C.P.cellsOf t)
          obtain ⟨L1, hl1, _⟩ := Reps.mapC hmv hl0
          obtain ⟨M, hrepv, _⟩ := hrep hl1 h1'
          exact wp_quiet ⟨Le, Ll, Lx, Lk, h0⟩ hn hk hrepv.share hrun'
    · exact hk.elim
  · rename_i cells
    obtain ⟨hfit, hk⟩ := hk
    have hfit := hfit hg
    simp only [share] at hr
    generalize hv : a.eval x = z at hr
    cases hr with
    | ref hcs h1 hcc =>
      rename_i vals ad
      have hlen := hcs.length
      have hvl : (vals.take (C.P.cellsOf t)).length = C.P.cellsOf t := by simp only [List.length_take]; omega
      have hcell : ∀ j v, (vals.take (C.P.cellsOf t))[j]? = some v → w.cell? (ad.add j) = some v := by
        intro j v hj
        rw [List.getElem?_take] at hj
        split at hj
        · exact (hcc j v hj).2
        · cases hj
      obtain ⟨v, hrun, hrep⟩ := run_loadVar_of (w := w) hgood hpos hvl hcell
      have h1' : ∀ v ∈ vals.take (C.P.cellsOf t), v.oneCell' = true := fun v hv => h1 v (List.mem_of_mem_take hv)
      have hrun' : (execOp a.eval o).run C.P w = .ok (.value v) w := by
        simp only [execOp, ho, hv, Instr.loadAt, Instr.sureAddr, Sem.run_bind, Sem.run_pure, Result.andThen_ok, hrun]
      obtain ⟨L0, hl0, hc0⟩ := hcs.take_drop 0 (C.P.cellsOf t)
      simp only [List.drop_zero] at hl0
      obtain ⟨M, hrepv, hcM⟩ := hrep hl0 h1'
      have hM : M = [] := by
        cases M with
        | nil => rfl
        | cons y M => have := hcM y; have := hc0 y; simp only [List.count_cons_self, List.count_nil] at *; omega
      subst hM
      exact wp_quiet h hn hk hrepv.nilbl hrun'
  · rename_i s y off
    obtain ⟨hes, hk⟩ := hk
    split at hk
    · rename_i y' e n cells hs
      obtain ⟨rfl, hfit, hk⟩ := hk
      simp only [share] at hr
      generalize hv : a.eval x = z at hr
      cases hr with
      | ept =>
        rename_i g nn cap
        have h0 := h
        obtain ⟨Le, Ll, Lx, Lk, h0⟩ := h0
        obtain ⟨xv, Lv, Lr, hxv, hrs, hLc, hset⟩ := h0.slot hs (by simp)
        have hval := hrs.nam_val
        have hrs := hrs.nam_inv
        rw [← hval] at hrs hxv
        cases hrs with
        | slEx hcs h1 hh hcap hmax hpose hsz htk hpr =>
          rename_i vals L0 cur
          have hlen := hcs.length
          have hvl : ((vals.drop off).take (C.P.cellsOf t)).length = C.P.cellsOf t := by
            simp only [List.length_take, List.length_drop]; omega
          have hcell : ∀ j v, ((vals.drop off).take (C.P.cellsOf t))[j]? = some v → w.cell? ((⟨g, off, none⟩ : Addr).add j) = some v := by
            intro j v hj
            rw [Addr.add_lit, cell_of_row w _ _ _ _ _ hh]
            rw [List.getElem?_take] at hj
            split at hj
            · rw [List.getElem?_drop, ← htk, List.getElem?_take] at hj
              split at hj
              · simpa using hj
              · cases hj
            · cases hj
          obtain ⟨v, hrun, hrep⟩ := run_loadVar_of (w := w) hgood hpos hvl hcell
          have h1' : ∀ v ∈ (vals.drop off).take (C.P.cellsOf t), v.oneCell' = true := fun v hv => h1 v (List.mem_of_mem_drop (List.mem_of_mem_take hv))
          have hrun' : (execOp a.eval o).run C.P w = .ok (.value v) w := by
            simp only [execOp, ho, hv, Instr.loadAt, Instr.sureAddr, Sem.run_bind, Sem.run_pure, Result.andThen_ok, hrun]
          split at hk
          · rename_i te e2 n2 cs2 htd hoff
            obtain ⟨hm, hone, hk⟩ := hk
            obtain ⟨v0, Li, L', hv0, hr0, hc0, hput⟩ := hcs.takeAt hoff
            have htake : (vals.drop off).take (C.P.cellsOf t) = [v0] := by
              have hlt := (List.getElem?_eq_some_iff.1 hv0).1
              have hget := (List.getElem?_eq_some_iff.1 hv0).2
              rw [hone, List.drop_eq_getElem_cons hlt, hget]; simp
            have hrn := hrep (bl := []) (Pr := Pr) (L := Li ++ []) (cs := [AC.nam v0 (.sl (.ex e2) n2 cs2)]) (by rw [htake]; exact .cons (.nam hr0) .nil) h1'
            obtain ⟨M, hrn, _⟩ := hrn
            have hvv : v0 = v := by
              have : mkVal C.P t [AC.nam v0 (.sl (.ex e2) n2 cs2)] = AC.nam v0 (.sl (.ex e2) n2 cs2) := by
                unfold mkVal; rw [htd]; rfl
              rw [this] at hrn
              exact hrn.nam_val
            subst hvv
            have hS : SR C (st.setAt s (.nam (.slice (some ⟨g, 0, none⟩) n cap) (.sl (.ex e) n (cells.set off (.nam v0 (.sl (.ex e2) n2 cs2)))))) a w Pr b xs vs := by
              obtain ⟨L2, k10, k11⟩ := hput _ _ (Rep.nam hr0)
              obtain ⟨eK, kE, kL, hset⟩ := hset (.nam (.slice (some ⟨g, 0, none⟩) n cap) (.sl (.ex e) n (cells.set off (.nam v0 (.sl (.ex e2) n2 cs2)))))
              have hrn : Rep C.P w Pr (b :: C.bl0) (.nam (.slice (some ⟨g, 0, none⟩) n cap) (.sl (.ex e) n (cells.set off (.nam v0 (.sl (.ex e2) n2 cs2))))) xv (g :: L2) := by
                rw [← hval]; exact .nam (.slEx k10 h1 hh hcap hmax hpose hsz htk hpr)
              obtain ⟨Le', Ll', g1, g2, g3⟩ := hset w Pr _ _ (fun c z M hM _ => hM) hrn
              refine ⟨Le', Ll', Lx, Lk, { h0 with env := g1, loc := g2, K := by rw [eK]; exact h0.K, cnt := fun z => ?_, new := fun z hz => h0.new z ?_, kE := kE, kL := kL }⟩
              · have := h0.cnt z; have := g3 z; have := hLc z; have := k11 z; have := hc0 z
                simp only [List.count_cons] at *; omega
              · have := g3 z; have := hLc z; have := k11 z; have := hc0 z
                simp only [List.count_cons] at *; omega
            refine wp_val hrun' (hn _ _ _ _ _ b (hk v0) (hS.push ?_) fun e => by rw [hm] at e; cases e)
            cases hr0 with
            | slEx _ _ _ h4 h5 => exact .als ⟨h4, Nat.le_trans h4 h5⟩ (.inr ⟨_, rfl⟩)
            | slNil => exact .als ⟨Nat.le_refl _, Nat.zero_le _⟩ (.inl ⟨rfl, rfl⟩)
          · obtain ⟨L0, hl0, _⟩ := hcs.take_drop off (C.P.cellsOf t)
            obtain ⟨M, hrepv, _⟩ := hrep hl0 h1'
            exact wp_quiet h hn hk hrepv.share.nilbl hrun'
    · exact hk.elim
  · exact hk.elim

/-- The cells of a value. -/
theorem rep_cells {bl : List (List Nat)} {v : AC} {x : Value} {L : List Nat} (h : Rep P w Pr bl v x L) (hu : isUndef v = false) (ht : ∀ vs, v ≠ .tup vs) (ho : ∀ g u, v ≠ .opt g u) :
    Reps P w Pr bl (cellsOfV v) x.cells.toList L ∧ ∀ y ∈ x.cells.toList, y.oneCell' = true := by
  cases h with
  | agg h1 h2 => exact ⟨by simpa [cellsOfV, Value.cells] using h1, by simpa [Value.cells] using h2⟩
  | tup => exact absurd rfl (ht _)
  | optT => exact absurd rfl (ho _ _)
  | optF => exact absurd rfl (ho _ _)
  | undef => simp [isUndef] at hu
  | bool => exact ⟨by simpa [cellsOfV, Value.cells] using Reps.cons (P := P) (w := w) (Pr := Pr) .bool .nil, by simp [Value.cells, Value.oneCell']⟩
  | int => exact ⟨by simpa [cellsOfV, Value.cells] using Reps.cons (P := P) (w := w) (Pr := Pr) .int .nil, by simp [Value.cells, Value.oneCell']⟩
  | str h h' => exact ⟨by simpa [cellsOfV, Value.cells] using Reps.cons (.str h h') .nil, by simp [Value.cells, Value.oneCell']⟩
  | slNo h1 h2 h3 h4 h5 => exact ⟨by simpa [cellsOfV, Value.cells] using Reps.cons (.slNo h1 h2 h3 h4 h5) .nil, by simp [Value.cells, Value.oneCell']⟩
  | slNil => exact ⟨by simpa [cellsOfV, Value.cells] using Reps.cons (P := P) (w := w) (Pr := Pr) .slNil .nil, by simp [Value.cells, Value.oneCell']⟩
  | slOf h1 h2 h3 h4 h5 h6 h7 h8 h9 h10 => exact ⟨by simpa [cellsOfV, Value.cells] using Reps.cons (.slOf h1 h2 h3 h4 h5 h6 h7 h8 h9 h10) .nil, by simp [Value.cells, Value.oneCell']⟩
  | slEx h1 h2 h3 h4 h5 h6 h7 h8 h9 => exact ⟨by simpa [cellsOfV, Value.cells] using Reps.cons (.slEx h1 h2 h3 h4 h5 h6 h7 h8 h9) .nil, by simp [Value.cells, Value.oneCell']⟩
  | nam h => simp [isUndef] at hu
  | als => simp [isUndef] at hu
  | alsA => simp [isUndef] at hu
  | ept => exact ⟨by simpa [cellsOfV, Value.cells] using Reps.cons (P := P) (w := w) (Pr := Pr) .ept .nil, by simp [Value.cells, Value.oneCell']⟩
  | ptr hg => exact ⟨by simpa [cellsOfV, Value.cells] using Reps.cons (.ptr hg) .nil, by simp [Value.cells, Value.oneCell']⟩
  | ref h1 h2 h3 => exact ⟨by simpa [cellsOfV, Value.cells] using Reps.cons (.ref h1 h2 h3) .nil, by simp [Value.cells, Value.oneCell']⟩
  | fn h0 h1 => exact ⟨by simpa [cellsOfV, Value.cells] using Reps.cons (.fn h0 h1) .nil, by simp [Value.cells, Value.oneCell']⟩

theorem mapM_low_ok {u : Nat} {v : AC} {new : List AC} (h : (cellsOfV v).mapM (lowC u) = some new) : (∀ vs, v ≠ .tup vs) ∧ ∀ g u, v ≠ .opt g u := by
  constructor
  · rintro vs rfl; simp [cellsOfV, lowC] at h
  · rintro g u rfl; simp [cellsOfV, lowC] at h

theorem bl_split {bl : List (List Nat)} {K : List (List (List AC))} {u i : Nat} {cells : List AC} {L : List Nat} (hK : RepK P w Pr K bl L) (hc : getBox K u i = some cells) : (bl.take u).length = u := by
  have hlen : ∀ (K : List (List (List AC))) (bl : List (List Nat)) (L : List Nat), RepK P w Pr K bl L → K.length = bl.length := by
    intro K
    induction K with
    | nil => intro bl L h; rw [h.1]; rfl
    | cons f K ih => intro bl L h; obtain ⟨b, bl', L1, L2, rfl, _, hK, _⟩ := h; simp [ih _ _ hK]
  have : u < K.length := by
    unfold getBox at hc
    cases hk : K[u]? with
    | none => simp [hk] at hc
    | some f => exact (List.getElem?_eq_some_iff.1 hk).1
  rw [hlen K bl L hK] at this
  simp; omega

theorem s_store {t : TypeId} {x y : Operand} (ho : o.op = .store t x y) (h : SR C st a w Pr b xs vs) (hg : gOk gd) (hD : wD_store C.P C.fi m gd dst t x y st k) (hn : Goes C m st b a xs vs o.dst next k) :
    o.wp C.P a w next Q := by
  obtain ⟨rfl, hpos, hgood, hD⟩ := hD
  obtain ⟨p, hk, hr⟩ := h.un hD hg
  obtain ⟨v, st', hk, hS, hKe, _⟩ := h.wT hk hg
  split at hk
  · rename_i uu i off hx0
    split at hk
    · rename_i cells hbox
      obtain ⟨hfit, hnu, hvl, hk⟩ := hk
      split at hk
      · rename_i new hnew
        simp only [share] at hr
        generalize hv : a.eval x = z at hr
        cases hr with
        | ptr hgb =>
          rename_i g
          obtain ⟨Le, Ll, Lx, Lk, h0⟩ := hS
          have hbox' : getBox st'.K uu i = some cells := hbox
          obtain ⟨cur, T, Li, Lr, hh, hcs, h1, hpr, hmem, hcnt, hset⟩ := h0.K.set hbox' hgb h0.box_cnt
          have hreg := h0.reg
          generalize hvv : a.eval y = vv at hreg
          cases hreg with
          | cons g1 g2 =>
            rename_i Lv Lx'
            obtain ⟨hc1, hc2⟩ := rep_cells g1 hnu (mapM_low_ok hnew).1 (mapM_low_ok hnew).2
            have hbs := bl_split h0.K hbox'
            have hc3 := hc1
            rw [← List.take_append_drop uu (b :: C.bl0)] at hc3
            have hlow := lowCs_rep hbs hnew hc3
            have hnl : new.length = C.P.cellsOf t := by rw [hlow.length, ← hc1.length, hvl]
            have hsz : vv.cells.size = C.P.cellsOf t := by rw [← Array.length_toList, ← hc1.length, hvl]
            obtain ⟨Lm, Lr2, L', _, hput, c1, c2⟩ := hcs.put hlow (off := off) (by omega)
            have hcl := hcs.length
            have hrun : (execOp a.eval o).run C.P w = .ok .skip (w.setRow g (cur.toList.take off ++ vv.cells.toList ++ cur.toList.drop (off + vv.cells.toList.length)).toArray) := by
              have hst := run_storeCells_at C.P g off T vv.cells.toList 0 cur w hh (by simp only [Array.length_toList]; rw [hsz, ← Array.length_toList, ← hcl]; omega) hc2
              simp only [Nat.add_zero] at hst
              simp only [execOp, ho, hv, hvv, Instr.storeAt, Instr.sureAddr, storeVar, Sem.run_bind, Sem.run_pure, Result.andThen_ok, run_sizeOf_of hpos, hsz, ne_eq, not_true_eq_false, if_false, hst]
            have hnotg : ∀ x, 0 < Le.count x + Ll.count x + (Lv ++ Lx').count x + Lk.count x → x ≠ g := by
              intro x hx e; subst e
              have := h0.cnt x
              have := List.count_pos_iff.2 hmem
              omega
            have hkept : ∀ x, x ≠ g → Kept w Pr (w.setRow g (cur.toList.take off ++ vv.cells.toList ++ cur.toList.drop (off + vv.cells.toList.length)).toArray) Pr x :=
              fun x hx => ⟨setRow_other w g x _ hx, fun p hp _ => hp⟩
            have hp : ∀ p, Pr p → Pr p ∧ (w.setRow g (cur.toList.take off ++ vv.cells.toList ++ cur.toList.drop (off + vv.cells.toList.length)).toArray).cell? p = w.cell? p :=
              fun p hp => ⟨hp, cell_setRow_other w g _ p (hpr p hp)⟩
            have hput' : Reps C.P w Pr ((b :: C.bl0).drop uu) (putCells cells off new) (cur.toList.take off ++ vv.cells.toList ++ cur.toList.drop (off + vv.cells.toList.length)) L' := by
              have e : vv.cells.toList.length = new.length := by rw [Array.length_toList, hsz, hnl]
              rw [e]; exact hput
            have hput'' := hput'.kept (w' := w.setRow g (cur.toList.take off ++ vv.cells.toList ++ cur.toList.drop (off + vv.cells.toList.length)).toArray) hp (fun x hx => hkept x (hnotg x (by
              have := c1 x; have := c2 x; have := hcnt x; have := List.count_pos_iff.2 hx
              simp only [List.count_append]; omega)))
            obtain ⟨L2, hK2, c3⟩ := hset _ Pr _ _ L' (setRow_heap w g cur _ T _ hh) hput'' (fun y hy => by
                simp only [List.mem_append] at hy
                rcases hy with (hy | hy) | hy
                · exact h1 y (List.mem_of_mem_take hy)
                · exact hc2 y hy
                · exact h1 y (List.mem_of_mem_drop hy)) hpr hp
              (fun x hx => hkept x (hnotg x (by have := hcnt x; have := List.count_pos_iff.2 hx; omega))) (fun x hx hne => hkept x hne)
            have hs := h0.since
            have hgF : g ∈ C.F ∨ C.w0.heap.size ≤ g := h0.new g (by have := List.count_pos_iff.2 hmem; omega)
            unfold Oper.wp
            rw [hrun]
            show next (a.put o.dst undef) _
            refine hn .undef _ undef _ Pr b hk ⟨Le, Ll, Lx', L2, ?_⟩ (fun e => by cases e)
            refine { env := h0.env.kept hp (fun x hx => hkept x (hnotg x (by have := List.count_pos_iff.2 hx; omega))),
                     loc := h0.loc.kept hp (fun x hx => hkept x (hnotg x (by have := List.count_pos_iff.2 hx; omega))),
                     reg := by simpa using Reps.cons (L := []) .undef (g2.kept hp (fun x hx => hkept x (hnotg x (by have := List.count_pos_iff.2 hx; simp only [List.count_append]; omega)))),
                     K := hK2, cnt := fun x => ?_, new := fun x hx => h0.new x ?_, kE := h0.kE, kL := h0.kL, prlt := fun p hp' => by simpa using h0.prlt p hp', since := ?_, defers := h0.defers, size := h0.size }
            · have := h0.cnt x; have := c1 x; have := c2 x; have := c3 x; have := hcnt x
              simp only [List.count_append] at *
              have hlv : Lv.count x + Lx'.count x + Le.count x + Ll.count x + Lk.count x + (b :: C.bl0).flatten.count x ≤ 1 := by omega
              omega
            · have := c1 x; have := c2 x; have := c3 x; have := hcnt x
              simp only [List.count_append] at *
              omega
            · exact ⟨hs.os, hs.tape, hs.output, by simpa using hs.size, fun y hy hF => (setRow_other w g y _ (fun e => by subst e; rcases hgF with h | h; exact hF h; omega)).trans (hs.block y hy hF),
                fun p hp' => ⟨(hs.prot p hp').1, (cell_setRow_other w g _ p (hpr p (hs.prot p hp').1)).trans (hs.prot p hp').2⟩, hs.newPr⟩
      · exact hk.elim
    · exact hk.elim
  · rename_i s yv off hx0
    obtain ⟨hes, hk⟩ := hk
    split at hk
    · rename_i y' e n cells hs
      obtain ⟨hyy, hfit, hnu, hvl, hfl, hk⟩ := hk
      subst hyy
      simp only [share] at hr
      generalize hv : a.eval x = z at hr
      cases hr with
      | ept =>
        rename_i g nn cap
        obtain ⟨Le, Ll, Lx, Lk, h0⟩ := hS
        obtain ⟨xv, Ls, Lr, hxv, hrs, hLc, hset⟩ := h0.slot hs (by simp)
        have hval := hrs.nam_val
        have hrs := hrs.nam_inv
        rw [← hval] at hrs hxv
        cases hrs with
        | slEx hcs h1 hh hcap hmax hpose hsz htk hpr =>
          rename_i vals L0 cur
          have hreg := h0.reg
          generalize hvv : a.eval y = vv at hreg
          cases hreg with
          | cons g1 g2 =>
            rename_i Lv Lx'
            have ht1 : ∀ vs, v ≠ .tup vs := by rintro vs rfl; simp [cellsOfV, flat] at hfl
            have ht2 : ∀ g u, v ≠ .opt g u := by rintro g u rfl; simp [cellsOfV, flat] at hfl
            obtain ⟨hc1, hc2⟩ := rep_cells g1 hnu ht1 ht2
            have hc3 := hc1.flat (bl' := []) hfl
            have hsz2 : vv.cells.size = C.P.cellsOf t := by rw [← Array.length_toList, ← hc1.length, hvl]
            have hcl := hcs.length
            have hvlen : vals.length = n * C.P.cellsOf e := by
              rw [← htk, List.length_take, Array.length_toList, Nat.min_eq_left (Nat.le_trans (Nat.mul_le_mul_right _ hcap) hsz)]
            obtain ⟨Lm, Lr2, L', _, hput, c1, c2⟩ := hcs.put hc3 (off := off) (by rw [hvl]; omega)
            have hrun : (execOp a.eval o).run C.P w = .ok .skip (w.setRow g (cur.toList.take off ++ vv.cells.toList ++ cur.toList.drop (off + vv.cells.toList.length)).toArray) := by
              have hst := run_storeCells_at C.P g off e vv.cells.toList 0 cur w hh (by simp only [Array.length_toList]; rw [hsz2]; have := Nat.mul_le_mul_right (C.P.cellsOf e) hcap; omega) hc2
              simp only [Nat.add_zero] at hst
              simp only [execOp, ho, hv, hvv, Instr.storeAt, Instr.sureAddr, storeVar, Sem.run_bind, Sem.run_pure, Result.andThen_ok, run_sizeOf_of hpos, hsz2, ne_eq, not_true_eq_false, if_false, hst]
            have hgc : 1 ≤ (g :: L0).count g := by simp
            have hnotg : ∀ x, 0 < Lr.count x + L0.count x + (Lv ++ Lx').count x + Lk.count x + (b :: C.bl0).flatten.count x → x ≠ g := by
              intro x hx e; subst e
              have := h0.cnt x; have := hLc x
              simp only [List.count_cons_self] at *
              omega
            have hkept : ∀ x, x ≠ g → Kept w Pr (w.setRow g (cur.toList.take off ++ vv.cells.toList ++ cur.toList.drop (off + vv.cells.toList.length)).toArray) Pr x :=
              fun x hx => ⟨setRow_other w g x _ hx, fun p hp _ => hp⟩
            have hp : ∀ p, Pr p → Pr p ∧ (w.setRow g (cur.toList.take off ++ vv.cells.toList ++ cur.toList.drop (off + vv.cells.toList.length)).toArray).cell? p = w.cell? p :=
              fun p hp => ⟨hp, cell_setRow_other w g _ p (hpr p hp)⟩
            have hput' : Reps C.P w Pr [] (putCells cells off (cellsOfV v)) (vals.take off ++ vv.cells.toList ++ vals.drop (off + vv.cells.toList.length)) L' := by
              have e : vv.cells.toList.length = (cellsOfV v).length := by rw [Array.length_toList, hsz2, hvl]
              rw [e]; exact hput
            have hput'' := hput'.kept (w' := w.setRow g (cur.toList.take off ++ vv.cells.toList ++ cur.toList.drop (off + vv.cells.toList.length)).toArray) hp (fun x hx => hkept x (hnotg x (by
              have := c1 x; have := c2 x; have := List.count_pos_iff.2 hx
              simp only [List.count_append] at *; omega)))
            obtain ⟨eK, kE, kL, hset⟩ := hset (.nam (.slice (some ⟨g, 0, none⟩) n cap) (.sl (.ex e) n (putCells cells off (cellsOfV v))))
            have hnew : Rep C.P (w.setRow g (cur.toList.take off ++ vv.cells.toList ++ cur.toList.drop (off + vv.cells.toList.length)).toArray) Pr (b :: C.bl0)
                (.nam (.slice (some ⟨g, 0, none⟩) n cap) (.sl (.ex e) n (putCells cells off (cellsOfV v)))) xv (g :: L') := by
              rw [← hval]
              have hlv : vv.cells.toList.length = C.P.cellsOf t := by rw [Array.length_toList, hsz2]
              have hfit2 : off + C.P.cellsOf t ≤ n * C.P.cellsOf e := by omega
              refine .nam (.slEx hput'' (fun y hy => ?_) (setRow_heap w g cur _ e _ hh) hcap hmax hpose ?_ ?_ hpr)
              · simp only [List.mem_append] at hy
                rcases hy with (hy | hy) | hy
                · exact h1 y (List.mem_of_mem_take hy)
                · exact hc2 y hy
                · exact h1 y (List.mem_of_mem_drop hy)
              · have hm := Nat.mul_le_mul_right (C.P.cellsOf e) hcap
                simp only [List.size_toArray, List.length_append, List.length_take, List.length_drop, Array.length_toList, hsz2]
                omega
              · have hm := Nat.mul_le_mul_right (C.P.cellsOf e) hcap
                rw [← htk, hlv]
                simp only [List.take_take, List.drop_take]
                rw [Nat.min_eq_left (by omega)]
                rw [List.take_append, List.take_append, List.take_of_length_le (l := List.take off cur.toList) (by rw [List.length_take]; omega),
                  List.take_of_length_le (l := vv.cells.toList) (by rw [List.length_take, Array.length_toList, Array.length_toList, hsz2, Nat.min_eq_left (by omega)]; omega)]
                congr 2
                simp only [List.length_append, List.length_take, Array.length_toList, hsz2]
                rw [Nat.min_eq_left (by omega)]
            obtain ⟨Le', Ll', e1, e2, e3⟩ := hset _ Pr _ (g :: L') (fun c z M hM hin => hM.kept hp fun x hx => hkept x (hnotg x (by have := List.count_pos_iff.2 (hin x hx); omega))) hnew
            have hs2 := h0.since
            have hgF : g ∈ C.F ∨ C.w0.heap.size ≤ g := h0.new g (by have := hLc g; omega)
            unfold Oper.wp
            rw [hrun]
            show next (a.put o.dst undef) _
            refine hn .undef _ undef _ Pr b hk ⟨Le', Ll', Lx', Lk, ?_⟩ (fun e => by cases e)
            refine { env := e1, loc := e2,
                     reg := by simpa using Reps.cons (L := []) .undef (g2.kept hp (fun x hx => hkept x (hnotg x (by have := List.count_pos_iff.2 hx; simp only [List.count_append]; omega)))),
                     K := by rw [eK]; exact h0.K.kept hp (fun x hx => hkept x (hnotg x (by have := List.count_pos_iff.2 hx; omega))) (fun x hx => hkept x (hnotg x (by have := List.count_pos_iff.2 hx; omega))),
                     cnt := fun x => ?_, new := fun x hx => h0.new x ?_, kE := kE, kL := kL, prlt := fun p hp' => by simpa using h0.prlt p hp', since := ?_, defers := h0.defers, size := h0.size }
            · have := h0.cnt x; have := c1 x; have := c2 x; have := e3 x; have := hLc x
              simp only [List.count_append, List.count_cons] at *
              omega
            · have := c1 x; have := c2 x; have := e3 x; have := hLc x
              simp only [List.count_append, List.count_cons] at *
              omega
            · exact ⟨hs2.os, hs2.tape, hs2.output, by simpa using hs2.size, fun y hy hF => (setRow_other w g y _ (fun e => by subst e; rcases hgF with h | h; exact hF h; omega)).trans (hs2.block y hy hF),
                fun p hp' => ⟨(hs2.prot p hp').1, (cell_setRow_other w g _ p (hpr p (hs2.prot p hp').1)).trans (hs2.prot p hp').2⟩, hs2.newPr⟩
    · exact hk.elim
  · exact hk.elim
end
end Go.Proofs.YtkefgpmnimpcdaaGreatDoor.Abs
/- Boxes are made; fields, elements, lengths, structs. No condition. -/
set_option linter.unusedVariables false
set_option linter.unusedSimpArgs false
namespace Go.Proofs.YtkefgpmnimpcdaaGreatDoor.Abs
open Go
section
variable {P : Program} {w : World} {Pr : Addr → Prop}
variable {C : Cx} {st : St} {a : Act} {w' : World} {Pr' : Addr → Prop} {b : List Nat} {xs : List AC} {vs : List Value} {m : Bool} {gd : Option Bool} {dst : Option Nat}
  {next : Act → World → Prop} {Q : Exit → Act → World → Prop} {k : AC → St → Prop} {o : Oper}

theorem since_alloc {w0 : World} {Pr0 : Addr → Prop} {F : List Nat} (hs : Since w0 Pr0 F w Pr) (hl : ∀ p, Pr p → p.block < w.heap.size) (o : Obj) : Since w0 Pr0 F (w.alloc o) Pr :=
  ⟨hs.os, hs.tape, hs.output, by have := hs.size; simp; omega, fun g hg hF => (heap_alloc_old w o g (by have := hs.size; omega)).trans (hs.block g hg hF),
    fun p hp => ⟨(hs.prot p hp).1, (World.cell?_alloc_lt w o p (hl p (hs.prot p hp).1)).trans (hs.prot p hp).2⟩, hs.newPr⟩

/-- A box is made of cells that a register holds. -/
theorem SR.newBox {f : List (List AC)} {K : List (List (List AC))} {cs : List AC} {cells : Array Value} {T : TypeId} {L0 : List Nat} {Le Ll Lx Lk : List Nat} (h : SRL C st a w Pr b xs vs Le Ll Lx Lk) (hK : st.K = f :: K)
    (hc : Reps C.P w Pr (b :: C.bl0) cs cells.toList L0) (h1 : ∀ v ∈ cells.toList, v.oneCell' = true)
    (hcnt : ∀ x, L0.count x + Le.count x + Ll.count x + Lx.count x + Lk.count x + (b :: C.bl0).flatten.count x ≤ 1)
    (hnew : ∀ x, 0 < L0.count x → x ∈ C.F ∨ C.w0.heap.size ≤ x) :
    SR C { st with K := (f ++ [cs]) :: K } a (w.alloc (.cells cells T)) Pr (b ++ [w.heap.size]) (.ptr 0 f.length 0 :: xs) (.pointer (some ⟨w.heap.size, 0, none⟩) :: vs) := by
  have hp : ∀ p, Pr p → Pr p ∧ (w.alloc (.cells cells T)).cell? p = w.cell? p := fun p hp => ⟨hp, World.cell?_alloc_lt w _ p (h.prlt p hp)⟩
  have hk : ∀ g, g < w.heap.size → Kept w Pr (w.alloc (.cells cells T)) Pr g := fun g hg => ⟨heap_alloc_old w _ g hg, fun p hp _ => hp⟩
  have h0 := h.K
  rw [hK] at h0
  obtain ⟨b', bl', L1, L2, e, hF, hK', rfl⟩ := h0
  cases e
  have hflt := hF.box_lt
  have hF1 := (hF.kept hp (fun x hx => hk x (hF.own_lt x hx)) (fun x hx => hk x (hF.box_lt x hx))).ext (xs := [w.heap.size])
  have hc1 := (hc.kept hp (fun x hx => hk x (hc.own_lt x hx))).ext (gs := [w.heap.size])
  obtain ⟨L3, hF2, c3⟩ := hF1.push (heap_alloc_new w (.cells cells T)) hc1 h1 (fun p hp e => by have := h.prlt p hp; omega)
  have hK1 := hK'.kept hp (fun x hx => hk x (hK'.own_lt x hx)) (fun x hx => hk x (hK'.box_lt x hx))
  have hfresh : ∀ L : List Nat, (∀ x ∈ L, x < w.heap.size) → L.count w.heap.size = 0 := fun L hL => List.count_eq_zero.2 fun hm => Nat.lt_irrefl _ (hL _ hm)
  refine ⟨Le, Ll, Lx, L3 ++ L2, ⟨?_, ?_, ?_, ⟨b ++ [w.heap.size], C.bl0, L3, L2, rfl, hF2, hK1, rfl⟩, fun x => ?_, fun x hx => ?_, h.kE, h.kL, fun p hp => (by have := h.prlt p hp; simp; omega), since_alloc h.since h.prlt _, h.defers, h.size⟩⟩
  · exact (h.env.kept hp (fun x hx => hk x (h.env.own_lt x hx))).ext
  · exact (h.loc.kept hp (fun x hx => hk x (h.loc.own_lt x hx))).ext
  · refine Reps.cons (L := []) (.ptr ?_) ((h.reg.kept hp (fun x hx => hk x (h.reg.own_lt x hx))).ext)
    simp only [List.getElem?_cons_zero, Option.bind_some]
    rw [hF.length]; simp
  · have := hcnt x; have := c3 x
    simp only [List.flatten_cons, List.count_append, List.count_cons, List.count_nil] at *
    by_cases e : x = w.heap.size
    · subst e
      have := hfresh Le h.env.own_lt
      have := hfresh Ll h.loc.own_lt
      have := hfresh Lx h.reg.own_lt
      have := hfresh L1 hF.own_lt
      have := hfresh L2 hK'.own_lt
      have := hfresh b hF.box_lt
      have := hfresh C.bl0.flatten hK'.box_lt
      have := hfresh L0 hc.own_lt
      simp only [beq_self_eq_true, if_true]
      omega
    · have : (w.heap.size == x) = false := by simpa using fun e' => e e'.symm
      simp only [this, Bool.false_eq_true, if_false]
      omega
  · have := c3 x
    simp only [List.flatten_cons, List.count_append, List.count_cons, List.count_nil] at *
    by_cases e : x = w.heap.size
    · subst e; right; exact h.since.size
    · have e' : (w.heap.size == x) = false := by simpa using fun e' => e e'.symm
      simp only [e', Bool.false_eq_true, if_false] at hx
      by_cases h0 : 0 < L0.count x
      · exact hnew x h0
      · refine h.new x ?_
        simp only [List.flatten_cons, List.count_append] at *
        omega

theorem info_of_zero {t : TypeId} {cs : List AC} (h : zeroOf P t = some cs) : ∃ i z, P.info? t = some i ∧ i.zero = some z ∧ cs = z.cells.toList.map ofV := by
  unfold zeroOf at h
  cases hi : P.info? t with
  | none => simp [hi] at h
  | some i =>
    cases hz : i.zero with
    | none => simp [hi, hz] at h
    | some z => simp [hi, hz] at h; exact ⟨i, z, rfl, hz, h.symm⟩

theorem reps_ofV {bl : List (List Nat)} : ∀ l : List Value, Reps P w Pr bl (l.map ofV) l []
  | [] => .nil
  | v :: l => Reps.cons (L := []) (M := []) (rep_ofV v) (reps_ofV l)

theorem s_alloc {t : TypeId} (ho : o.op = .alloc t) (h : SR C st a w Pr b xs vs) (hg : gOk gd) (hD : wD_alloc C.P C.fi m gd dst t st k) (hn : Goes C m st b a xs vs o.dst next k) :
    o.wp C.P a w next Q := by
  obtain ⟨rfl, hD⟩ := hD
  split at hD
  · rename_i cs f K hz hK
    obtain ⟨hone, hD⟩ := hD
    obtain ⟨i, z, hi, hzz, rfl⟩ := info_of_zero hz
    obtain ⟨Le, Ll, Lx, Lk, h0⟩ := h
    have h1 : ∀ v ∈ z.cells.toList, v.oneCell' = true := by
      intro v hv
      unfold zeroOk at hone
      simp only [hi, Option.bind_some, hzz] at hone
      exact List.all_eq_true.1 hone v hv
    refine wp_val (v := .pointer (some ⟨w.heap.size, 0, none⟩)) (w' := w.alloc (.cells z.cells t)) ?_ (hn _ _ _ _ _ _ hD (SR.newBox h0 hK (reps_ofV _) h1 (fun x => by have := h0.cnt x; simp only [List.count_nil]; omega) (fun x hx => by simp at hx)) fun e => by cases e)
    simp [execOp, ho, Instr.alloc, zeroValue, typeInfo, hi, hzz, newVar, newRow]
  · exact hD.elim

theorem s_box {t : TypeId} {x : Operand} (ho : o.op = .box t x) (h : SR C st a w Pr b xs vs) (hg : gOk gd) (hD : wD_box C.P C.fi m gd dst t x st k) (hn : Goes C m st b a xs vs o.dst next k) :
    o.wp C.P a w next Q := by
  obtain ⟨rfl, hD⟩ := hD
  split at hD
  · unfold wBoxN at hD
    split at hD
    · rename_i s
      split at hD
      · rename_i y cells f K hs hK
        obtain ⟨hfl, hk⟩ := hD
        obtain ⟨Le0, Ll0, Lx0, Lk0, h00⟩ := h
        obtain ⟨xv, Lv, Lr, hxv, hrs, _, _⟩ := h00.slot hs (by simp)
        have ey := hrs.nam_val
        have hra := hrs.nam_inv
        have hget : a.eval (.tmp s) = xv := getD_of hxv
        generalize hxx : xv = x0 at hra
        cases hra with
        | agg g1 g2 =>
          rename_i vals
          have hlen := g1.length
          have hS2 : SR C (st.setAt s (.nam y (.agg (namC cells vals)))) a w Pr b xs vs := by
            refine SR.setAt (⟨Le0, Ll0, Lx0, Lk0, h00⟩ : SR C st a w Pr b xs vs) hs (by simp) ?_
            intro x L hx hr
            have e1 := hr.nam_val
            have e2 := hr.nam_inv
            have exx : x = .agg vals.toArray := by rw [← hx, ← hxx]; exact getD_of hxv
            rw [exx] at e1 e2 ⊢
            generalize hvv : vals.toArray = va at e2
            cases e2 with
            | agg q1 q2 =>
              rename_i vals2
              have : vals2 = vals := by have := congrArg Array.toList hvv; simpa using this.symm
              subst this
              exact ⟨L, by rw [e1]; exact .nam (.agg q1.namR q2), fun y => Nat.le_refl _⟩
          have hK2 : (st.setAt s (.nam y (.agg (namC cells vals)))).K = f :: K := by
            rw [← hK]; unfold St.setAt; split <;> rfl
          obtain ⟨Le, Ll, Lx, Lk, h0⟩ := hS2
          refine wp_val (v := .pointer (some ⟨w.heap.size, 0, none⟩)) (w' := w.alloc (.cells vals.toArray t)) ?_ (hn _ _ _ _ _ _ (hk vals (by rw [ey, hxx]) (by omega)) (SR.newBox (cells := vals.toArray) h0 hK2 (g1.alsBR s 0 hfl) (by simpa using g2) (fun x => by have := h0.cnt x; simp only [List.count_nil] at this ⊢; omega)
            (fun x hx => by simp at hx)) fun e => by cases e)
          simp [execOp, ho, Instr.box, newVar, newRow, hget, hxx, Value.cells]
      · exact hD.elim
    · exact hD.elim
  obtain ⟨v, st', hk, hS, hKe, _⟩ := h.wT hD hg
  obtain ⟨Le, Ll, Lx, Lk, h0⟩ := hS
  split at hk
  · exact hk.elim
  · exact hk.elim
  · rename_i v K0 f K ht hop hK
    obtain ⟨hnu, hk⟩ := hk
    have hreg := h0.reg
    generalize hvv : a.eval x = vv at hreg
    cases hreg with
    | cons g1 g2 =>
      rename_i Lv Lx'
      obtain ⟨hc1, hc2⟩ := rep_cells g1 hnu (fun vs e => ht vs e) (fun g u e => hop g u e)
      have h1 : SRL C st' a w Pr b xs vs Le Ll Lx' Lk := { h0 with
        reg := g2
        cnt := fun x => by have := h0.cnt x; simp only [List.count_append] at this ⊢; omega
        new := fun x hx => h0.new x (by simp only [List.count_append] at hx ⊢; omega) }
      refine wp_val (v := .pointer (some ⟨w.heap.size, 0, none⟩)) (w' := w.alloc (.cells vv.cells t)) ?_ (hn _ _ _ _ _ _ hk (SR.newBox h1 hK hc1 hc2 (fun x => by have := h0.cnt x; simp only [List.count_append] at this ⊢; omega)
        (fun x hx => h0.new x (by simp only [List.count_append]; omega))) fun e => by cases e)
      simp [execOp, ho, Instr.box, newVar, newRow, hvv]
  · exact hk.elim

theorem storable_cells {bl : List (List Nat)} {v : AC} {x : Value} {L : List Nat} (h : Rep P w Pr bl v x L) (hu : storable v = true) :
    Reps P w Pr bl (cellsOfV v) x.cells.toList L ∧ ∀ y ∈ x.cells.toList, y.oneCell' = true :=
  rep_cells h (by cases v <;> simp [storable] at hu <;> rfl) (fun vs e => by subst e; simp [storable] at hu) (fun g u e => by subst e; simp [storable] at hu)

theorem Reps.count_reverse {bl : List (List Nat)} {cs : List AC} {vals : List Value} {L : List Nat} (h : Reps P w Pr bl cs.reverse vals.reverse L) :
    ∃ L', Reps P w Pr bl cs vals L' ∧ ∀ x, L'.count x = L.count x := by
  induction cs generalizing vals L with
  | nil =>
    have := h.length
    simp at this
    obtain rfl : vals = [] := List.eq_nil_of_length_eq_zero this.symm
    cases h
    exact ⟨[], .nil, fun x => rfl⟩
  | cons c cs ih =>
    cases vals with
    | nil => have := h.length; simp at this
    | cons v vals =>
      simp only [List.reverse_cons] at h
      obtain ⟨v1, v2, L1, L2, e, rfl, hl, h1, h2⟩ := h.split
      have hl2 := h2.length
      have hv2 : v2.length = 1 := by simpa using hl2.symm
      obtain ⟨e1, e2⟩ := List.append_inj' e (by simp [hv2])
      subst e1; subst e2
      obtain ⟨L', r1, r2⟩ := ih h1
      cases h2 with
      | cons g1 g2 =>
        rename_i La Lb
        cases g2
        exact ⟨La ++ L', .cons g1 r1, fun x => by have := r2 x; simp only [List.count_append, List.count_nil]; omega⟩

/-- Several operands that are used up. -/
theorem SR.wTs {l : List Operand} : ∀ {st : St} {xs : List AC} {vs : List Value} {k : List AC → St → Prop}, SR C st a w Pr b xs vs → Abs.wTs C.fi m gd l st k → gOk gd →
    ∃ us st', k us st' ∧ SR C st' a w Pr b (us.reverse ++ xs) ((l.map a.eval).reverse ++ vs) ∧ st'.K = st.K ∧ (m = false → st' = st) := by
  induction l with
  | nil => intro st xs vs k h hu hg; exact ⟨[], st, hu, by simpa using h, rfl, fun _ => rfl⟩
  | cons x l ih =>
    intro st xs vs k h hu hg
    have hu' : Abs.wT C.fi m gd st x (fun v st => Abs.wTs C.fi m gd l st fun vs st => k (v :: vs) st) := hu
    obtain ⟨u, st1, hk, hS, hK, hm⟩ := h.wT (x := x) hu' hg
    obtain ⟨us, st2, hk2, hS2, hK2, hm2⟩ := ih hS hk hg
    refine ⟨u :: us, st2, hk2, ?_, hK2.trans hK, fun e => (hm2 e).trans (hm e)⟩
    simpa [List.append_assoc] using hS2

/-- Registers taken out. -/
theorem SR.out {us : List AC} {vals : List Value} (h : SR C st a w Pr b (us.reverse ++ xs) (vals.reverse ++ vs)) (hl : us.length = vals.length) :
    ∃ Lu Le Ll Lx Lk, Reps C.P w Pr (b :: C.bl0) us vals Lu ∧ SRL C st a w Pr b xs vs Le Ll Lx Lk ∧ (∀ x, Lu.count x + Le.count x + Ll.count x + Lx.count x + Lk.count x + (b :: C.bl0).flatten.count x ≤ 1) ∧
      ∀ x, 0 < Lu.count x → x ∈ C.F ∨ C.w0.heap.size ≤ x := by
  obtain ⟨Le, Ll, Lx, Lk, h0⟩ := h
  obtain ⟨v1, v2, L1, L2, e, rfl, hl1, h1, h2⟩ := h0.reg.split
  obtain ⟨e1, e2⟩ := List.append_inj e.symm (by simpa [hl] using hl1)
  subst e1; subst e2
  obtain ⟨Lu, r1, r2⟩ := h1.count_reverse
  refine ⟨Lu, Le, Ll, L2, Lk, r1, { h0 with reg := h2, cnt := fun x => ?_, new := fun x hx => h0.new x ?_ }, fun x => ?_, fun x hx => h0.new x ?_⟩
  · have := h0.cnt x; simp only [List.count_append] at this; omega
  · simp only [List.count_append]; omega
  · have := h0.cnt x; have := r2 x; simp only [List.count_append] at *; omega
  · have := r2 x; simp only [List.count_append]; omega

/-- A register that is made of what was taken out. -/
theorem SR.back {Lu Le Ll Lx Lk M : List Nat} {c : AC} {v : Value} (h : SRL C st a w Pr b xs vs Le Ll Lx Lk) (hr : Rep C.P w Pr (b :: C.bl0) c v M)
    (hc : ∀ x, Lu.count x + Le.count x + Ll.count x + Lx.count x + Lk.count x + (b :: C.bl0).flatten.count x ≤ 1) (hn : ∀ x, 0 < Lu.count x → x ∈ C.F ∨ C.w0.heap.size ≤ x)
    (hM : ∀ x, M.count x ≤ Lu.count x) : SR C st a w Pr b (c :: xs) (v :: vs) := by
  refine ⟨Le, Ll, M ++ Lx, Lk, { h with reg := .cons hr h.reg, cnt := fun x => ?_, new := fun x hx => ?_ }⟩
  · have := hc x; have := hM x; simp only [List.count_append]; omega
  · have := hM x
    simp only [List.count_append] at hx
    by_cases h0 : 0 < Lu.count x
    · exact hn x h0
    · exact h.new x (by omega)

theorem fold_set (l : List Value) : ∀ (s off : Nat) (cells : Array Value), off + s + l.length ≤ cells.size →
    (l.zipIdx s).foldl (fun cs (x : Value × Nat) => cs.setIfInBounds (off + x.2) x.1) cells = (cells.toList.take (off + s) ++ l ++ cells.toList.drop (off + s + l.length)).toArray := by
  induction l with
  | nil => intro s off cells _; simp
  | cons v l ih =>
    intro s off cells h
    simp only [List.length_cons] at h
    rw [List.zipIdx_cons, List.foldl_cons, ih (s + 1) off _ (by simp; omega)]
    apply Array.ext'
    simp only [Array.toList_setIfInBounds]
    apply List.ext_getElem?
    intro j
    have hlen : cells.toList.length = cells.size := by simp
    have t1 : ((cells.toList.set (off + s) v).take (off + (s + 1))) = cells.toList.take (off + s) ++ [v] := by
      rw [show off + (s + 1) = (off + s) + 1 by omega, List.take_add_one, List.take_set_of_le (by omega)]
      simp [List.getElem?_set_self (show off + s < cells.toList.length by omega)]
    have t2 : (cells.toList.set (off + s) v).drop (off + (s + 1) + l.length) = cells.toList.drop (off + s + (v :: l).length) := by
      rw [List.drop_set_of_lt (by omega)]; congr 1; simp; omega
    rw [t1, t2]; simp

theorem fill_sound {bl : List (List Nat)} {place : Nat → Option (Nat × Nat)} : ∀ {ids : List Nat} {us : List AC} {vals : List Value} {cells cs : List AC} {arr : Array Value} {L Lu : List Nat},
    Reps P w Pr bl cells arr.toList L → (∀ v ∈ arr.toList, v.oneCell' = true) → Reps P w Pr bl us vals Lu → fillC place cells (ids.zip us) = some cs →
    ∃ arr' L', Instr.fill place arr (ids.zip vals) = some arr' ∧ Reps P w Pr bl cs arr'.toList L' ∧ (∀ v ∈ arr'.toList, v.oneCell' = true) ∧ ∀ x, L'.count x ≤ L.count x + Lu.count x := by
  intro ids
  induction ids with
  | nil =>
    intro us vals cells cs arr L Lu hz h1 hu hf
    simp only [List.zip_nil_left, fillC, Option.some.injEq] at hf
    subst hf
    exact ⟨arr, L, by simp [Instr.fill], hz, h1, fun x => by omega⟩
  | cons i ids ih =>
    intro us vals cells cs arr L Lu hz h1 hu hf
    cases us with
    | nil =>
      cases hu
      simp only [List.zip_nil_right, fillC, Option.some.injEq] at hf
      subst hf
      exact ⟨arr, L, by simp [Instr.fill], hz, h1, fun x => by omega⟩
    | cons u us =>
      cases hu with
      | cons g1 g2 =>
        rename_i v vals L1 L2
        simp only [List.zip_cons_cons, fillC] at hf
        split at hf
        · cases hf
        · rename_i off size hp
          split at hf
          · cases hf
          · rename_i hcond
            simp only [not_or, Bool.not_eq_false, ne_eq, Decidable.not_not, Nat.not_lt] at hcond
            obtain ⟨hst, hsz, hfit⟩ := hcond
            obtain ⟨hc1, hc2⟩ := storable_cells g1 hst
            have hlen := hz.length
            have hcl := hc1.length
            have hasz : arr.toList.length = arr.size := Array.length_toList
            have hvsz : v.cells.toList.length = v.cells.size := Array.length_toList
            obtain ⟨Lm, Lr, L', _, hput, c1, c2⟩ := hz.put hc1 (off := off) (by omega)
            have hfold : v.cells.zipIdx.foldl (fun cs (x : Value × Nat) => cs.setIfInBounds (off + x.2) x.1) arr = (arr.toList.take off ++ v.cells.toList ++ arr.toList.drop (off + (cellsOfV u).length)).toArray := by
              have := fold_set v.cells.toList 0 off arr (by omega)
              rw [← Array.foldl_toList, Array.toList_zipIdx, this, Nat.add_zero, hcl]
            obtain ⟨arr', L2', e1, e2, e3, e4⟩ := ih (arr := (arr.toList.take off ++ v.cells.toList ++ arr.toList.drop (off + (cellsOfV u).length)).toArray) hput (fun y hy => by
                simp only [List.mem_append] at hy
                rcases hy with (hy | hy) | hy
                · exact h1 y (List.mem_of_mem_take hy)
                · exact hc2 y hy
                · exact h1 y (List.mem_of_mem_drop hy)) g2 hf
            refine ⟨arr', L2', ?_, e2, e3, fun x => by have := e4 x; have := c1 x; have := c2 x; simp only [List.count_append] at *; omega⟩
            simp only [List.zip_cons_cons, Instr.fill, hp]
            rw [if_neg (by simp; omega)]
            rw [← e1]
            congr 1
end
end Go.Proofs.YtkefgpmnimpcdaaGreatDoor.Abs
/- Structs and slices are made. No condition. -/
set_option linter.unusedVariables false
set_option linter.unusedSimpArgs false
namespace Go.Proofs.YtkefgpmnimpcdaaGreatDoor.Abs
open Go
section
variable {P : Program} {w : World} {Pr : Addr → Prop}
variable {C : Cx} {st : St} {a : Act} {w' : World} {Pr' : Addr → Prop} {b : List Nat} {xs : List AC} {vs : List Value} {m : Bool} {gd : Option Bool} {dst : Option Nat}
  {next : Act → World → Prop} {Q : Exit → Act → World → Prop} {k : AC → St → Prop} {o : Oper}

theorem storable_ofV {v : Value} (h : storable (ofV v) = true) : v.oneCell' = true := by
  cases v <;> simp [ofV, storable] at h <;> rfl

theorem storable_all {l : List Value} (h : (l.map ofV).all storable = true) : ∀ v ∈ l, v.oneCell' = true :=
  fun v hv => storable_ofV (List.all_eq_true.1 h _ (List.mem_map.2 ⟨v, hv, rfl⟩))

theorem run_mapM_sizes {fs : List Field} (h : ∀ f ∈ fs, 0 < P.cellsOf f.type) (w : World) :
    (fs.mapM (fun f => do pure (f.offset, ← sizeOf f.type) : Field → Sem (Nat × Nat))).run P w = .ok (fs.map fun f => (f.offset, P.cellsOf f.type)) w := by
  induction fs with
  | nil => simp
  | cons f fs ih =>
    have ih := ih fun g hg => h g (List.mem_cons_of_mem _ hg)
    simp only [List.mapM_cons, Sem.run_bind, run_sizeOf_of (h f List.mem_cons_self), Result.andThen_ok, Sem.run_pure, ih, List.map_cons]

theorem s_build {t : TypeId} {parts : Array (Nat × Operand)} (ho : o.op = .build t parts) (h : SR C st a w Pr b xs vs) (hg : gOk gd) (hD : wD_build C.P C.fi m gd dst t parts st k) (hn : Goes C m st b a xs vs o.dst next k) :
    o.wp C.P a w next Q := by
  obtain ⟨us, st', hk, hS, hK, hm⟩ := h.wTs hD hg
  split at hk
  · rename_i fs zs htd hz
    obtain ⟨hpos, hst, hk⟩ := hk
    split at hk
    · rename_i cs hf
      obtain ⟨gs, hu, hfs⟩ := tdOf_struct htd
      obtain ⟨i, z, hi, hzz, rfl⟩ := info_of_zero hz
      have hul : us.length = ((parts.toList.map (·.2)).map a.eval).length := by
        obtain ⟨Le, Ll, Lx, Lk, h0⟩ := hS
        have := h0.reg.length
        have h1 := h
        obtain ⟨_, _, _, _, h1⟩ := h1
        have h2 := h1.reg.length
        simp only [List.length_append, List.length_reverse] at this
        omega
      obtain ⟨Lu, Le, Ll, Lx, Lk, hu1, h0, hc, hn1⟩ := hS.out hul
      obtain ⟨arr, L', e1, e2, e3, e4⟩ := fill_sound (w := w) (arr := z.cells) (reps_ofV (w := w) (Pr := Pr) (bl := b :: C.bl0) z.cells.toList) (storable_all hst) hu1 hf
      have hsz : ∀ f ∈ gs.toList, 0 < C.P.cellsOf f.type := by
        intro f hf'
        have := List.all_eq_true.1 hpos (f.offset, C.P.cellsOf f.type, f.type) (by rw [hfs]; exact List.mem_map.2 ⟨f, hf', rfl⟩)
        simpa using this
      have hmap : (gs.mapM (fun f => do pure (f.offset, ← sizeOf f.type) : Field → Sem (Nat × Nat))).run C.P w = .ok (gs.map fun f => (f.offset, C.P.cellsOf f.type)) w := by
        rw [Array.mapM_eq_mapM_toList, Sem.run_map, run_mapM_sizes hsz, Result.andThen_ok]
        congr 1
        exact Array.ext' (by simp)
      have hplace : (fun i : Nat => (gs.map fun f => (f.offset, C.P.cellsOf f.type))[i]?) = fun i : Nat => (fs[i]?).map fun f : Nat × Nat × TypeId => (f.1, f.2.1) := by
        funext i
        rw [hfs]
        simp only [Array.getElem?_map, List.getElem?_map, Option.map_map]
        rw [← Array.getElem?_toList]
        rfl
      have hparts : (parts.map fun x => (x.1, a.eval x.2)).toList = (parts.toList.map (·.1)).zip ((parts.toList.map (·.2)).map a.eval) := by
        rw [Array.toList_map, List.map_map, List.zip_map']
        rfl
      refine wp_val (v := .agg arr) ?_ (hn _ _ _ _ _ _ hk (SR.back h0 (.agg (by simpa using e2) e3) hc hn1 (fun x => by have := e4 x; simpa using this)) fun e => ⟨hm e, rfl⟩)
      simp only [execOp, ho, Instr.build, Sem.run_bind, zeroValue, typeInfo, run_program, Result.andThen_ok, hi, Sem.run_pure, hzz, run_underlying hu, hmap]
      rw [hplace, hparts, e1]
      simp
    · exact hk.elim
  · exact hk.elim
end
end Go.Proofs.YtkefgpmnimpcdaaGreatDoor.Abs
/- Slices are made, and lengthened. No condition. -/
set_option linter.unusedVariables false
set_option linter.unusedSimpArgs false
namespace Go.Proofs.YtkefgpmnimpcdaaGreatDoor.Abs
open Go
section
variable {P : Program} {w : World} {Pr : Addr → Prop}
variable {C : Cx} {st : St} {a : Act} {w' : World} {Pr' : Addr → Prop} {b : List Nat} {xs : List AC} {vs : List Value} {m : Bool} {gd : Option Bool} {dst : Option Nat}
  {next : Act → World → Prop} {Q : Exit → Act → World → Prop} {k : AC → St → Prop} {o : Oper}

theorem range_mod (z : Array Value) (n : Nat) : ((Array.range (n * z.size)).map fun i => z[i % z.size]!).toList = (List.replicate n z.toList).flatten := by
  rw [Array.toList_map, Array.toList_range]
  induction n with
  | zero => simp
  | succ n ih =>
    rw [Nat.succ_mul, List.range_add, List.map_append, ih, List.replicate_succ', List.flatten_append]
    congr 1
    simp only [List.flatten_singleton, List.map_map]
    apply List.ext_getElem?
    intro j
    by_cases hj : j < z.size
    · simp only [List.getElem?_map, List.getElem?_range hj, Option.map_some, Function.comp]
      rw [Nat.mul_add_mod_self_right]
      simp [Nat.mod_eq_of_lt hj, hj]
    · rw [List.getElem?_eq_none (by simp; omega), List.getElem?_eq_none (by simp; omega)]

/-- A new row of cells. -/
theorem SR.newRowCap (keep : Bool) {Le Ll Lx Lk L0 : List Nat} {cs : List AC} {arr : Array Value} {vals : List Value} {e n cap : Nat} (h : SRL C st a w Pr b xs vs Le Ll Lx Lk) (hc : Reps C.P w Pr [] cs vals L0) (h1 : ∀ v ∈ vals, v.oneCell' = true)
    (hpos : 0 < C.P.cellsOf e) (hsz : arr.size = cap * C.P.cellsOf e) (hn : n ≤ cap) (hcm : cap ≤ maxLen) (hv : arr.toList.take (n * C.P.cellsOf e) = vals)
    (hcnt : ∀ x, L0.count x + Le.count x + Ll.count x + Lx.count x + Lk.count x + (b :: C.bl0).flatten.count x ≤ 1) (hnew : ∀ x, 0 < L0.count x → x ∈ C.F ∨ C.w0.heap.size ≤ x) :
    SR C st a (w.alloc (.cells arr e)) (fun p => Pr p ∨ (keep = false ∧ p.block = w.heap.size ∧ p.spot = none ∧ p.off < n * C.P.cellsOf e)) b (.sl (if keep = true then .ex e else .of e) n cs :: xs) (.slice (some ⟨w.heap.size, 0, none⟩) n cap :: vs) := by
  have hp : ∀ p, Pr p → (Pr p ∨ (keep = false ∧ p.block = w.heap.size ∧ p.spot = none ∧ p.off < n * C.P.cellsOf e)) ∧ (w.alloc (.cells arr e)).cell? p = w.cell? p :=
    fun p hp => ⟨.inl hp, World.cell?_alloc_lt w _ p (h.prlt p hp)⟩
  have hk : ∀ g, g < w.heap.size → Kept w Pr (w.alloc (.cells arr e)) (fun p => Pr p ∨ (keep = false ∧ p.block = w.heap.size ∧ p.spot = none ∧ p.off < n * C.P.cellsOf e)) g :=
    fun g hg => ⟨heap_alloc_old w _ g hg, fun p hp e => by rcases hp with hp | ⟨_, hp, _⟩; exact hp; omega⟩
  have hs := h.since
  have hfresh : ∀ L : List Nat, (∀ x ∈ L, x < w.heap.size) → L.count w.heap.size = 0 := fun L hL => List.count_eq_zero.2 fun hm => Nat.lt_irrefl _ (hL _ hm)
  refine ⟨Le, Ll, (w.heap.size :: L0) ++ Lx, Lk, ⟨?_, ?_, ?_, ?_, fun x => ?_, fun x hx => ?_, h.kE, h.kL, fun p hp => ?_, ⟨hs.os, hs.tape, hs.output, (by have := hs.size; simp; omega), fun g hg hF => ?_, fun p hp' => ?_, fun p hp' => ?_⟩, h.defers, h.size⟩⟩
  · exact h.env.kept hp (fun x hx => hk x (h.env.own_lt x hx))
  · exact h.loc.kept hp (fun x hx => hk x (h.loc.own_lt x hx))
  · refine Reps.cons ?_ (h.reg.kept hp (fun x hx => hk x (h.reg.own_lt x hx)))
    cases keep with
    | false =>
      refine .slOf (cur := arr) (hc.kept hp (fun x hx => hk x (hc.own_lt x hx))) h1 (heap_alloc_new w _) hn hcm hpos (Nat.le_of_eq hsz.symm) hv ?_ ?_
      · rintro p (hp | ⟨_, _, _, hp⟩) e
        · have := h.prlt p hp; omega
        · exact hp
      · intro j hj; exact .inr ⟨rfl, rfl, rfl, hj⟩
    | true =>
      refine .slEx (cur := arr) (hc.kept hp (fun x hx => hk x (hc.own_lt x hx))) h1 (heap_alloc_new w _) hn hcm hpos (Nat.le_of_eq hsz.symm) hv ?_
      rintro p (hp | ⟨hp, _⟩) e
      · have := h.prlt p hp; omega
      · cases hp
  · exact h.K.kept hp (fun x hx => hk x (h.K.own_lt x hx)) (fun x hx => hk x (h.K.box_lt x hx))
  · have := hcnt x
    simp only [List.cons_append, List.count_cons, List.count_append]
    by_cases e : x = w.heap.size
    · subst e
      have := hfresh Le h.env.own_lt
      have := hfresh Ll h.loc.own_lt
      have := hfresh Lx h.reg.own_lt
      have := hfresh Lk h.K.own_lt
      have := hfresh _ h.K.box_lt
      have := hfresh L0 hc.own_lt
      simp only [beq_self_eq_true, if_true]
      omega
    · have : (w.heap.size == x) = false := by simpa using fun e' => e e'.symm
      simp only [this, Bool.false_eq_true, if_false]
      omega
  · simp only [List.cons_append, List.count_cons, List.count_append] at hx
    by_cases e : x = w.heap.size
    · subst e; right; exact hs.size
    · have e' : (w.heap.size == x) = false := by simpa using fun e' => e e'.symm
      simp only [e', Bool.false_eq_true, if_false] at hx
      by_cases h0 : 0 < L0.count x
      · exact hnew x h0
      · exact h.new x (by omega)
  · rcases hp with hp | ⟨_, hp, _⟩
    · have := h.prlt p hp; simp; omega
    · rw [hp]; simp
  · exact (heap_alloc_old w _ g (by have := hs.size; omega)).trans (hs.block g hg hF)
  · exact ⟨.inl (hs.prot p hp').1, (World.cell?_alloc_lt w _ p (h.prlt p (hs.prot p hp').1)).trans (hs.prot p hp').2⟩
  · rcases hp' with hp' | ⟨_, hp', _⟩
    · exact hs.newPr p hp'
    · right; right; rw [hp']; exact hs.size

theorem SR.newRow (keep : Bool) {Le Ll Lx Lk L0 : List Nat} {cs : List AC} {arr : Array Value} {e n : Nat} (h : SRL C st a w Pr b xs vs Le Ll Lx Lk) (hc : Reps C.P w Pr [] cs arr.toList L0) (h1 : ∀ v ∈ arr.toList, v.oneCell' = true)
    (hpos : 0 < C.P.cellsOf e) (hsz : arr.size = n * C.P.cellsOf e) (hn : n ≤ maxLen)
    (hcnt : ∀ x, L0.count x + Le.count x + Ll.count x + Lx.count x + Lk.count x + (b :: C.bl0).flatten.count x ≤ 1) (hnew : ∀ x, 0 < L0.count x → x ∈ C.F ∨ C.w0.heap.size ≤ x) :
    SR C st a (w.alloc (.cells arr e)) (fun p => Pr p ∨ (keep = false ∧ p.block = w.heap.size ∧ p.spot = none ∧ p.off < n * C.P.cellsOf e)) b (.sl (if keep = true then .ex e else .of e) n cs :: xs) (.slice (some ⟨w.heap.size, 0, none⟩) n n :: vs) :=
  SR.newRowCap keep h hc h1 hpos hsz (Nat.le_refl _) hn (List.take_of_length_le (by rw [Array.length_toList]; omega)) hcnt hnew

theorem reps_replicate {bl : List (List Nat)} {cs : List AC} {l : List Value} (h : Reps P w Pr bl cs l []) : ∀ n, Reps P w Pr bl (List.replicate n cs).flatten (List.replicate n l).flatten []
  | 0 => by simpa using Reps.nil
  | n + 1 => by simpa [List.replicate_succ] using h.append (reps_replicate h n)

theorem replicate_one {l : List Value} (h : ∀ v ∈ l, v.oneCell' = true) (n : Nat) : ∀ v ∈ (List.replicate n l).flatten, v.oneCell' = true := by
  intro v hv
  obtain ⟨m, hm, hv⟩ := List.mem_flatten.1 hv
  exact h v ((List.mem_replicate.1 hm).2 ▸ hv)

theorem cellsOf_info {t : TypeId} {i : TypeInfo} (h : P.info? t = some i) : P.cellsOf t = i.size := by simp [Program.cellsOf, h]

theorem s_buildSlice {t : TypeId} {len : Nat} {parts : Array (Nat × Operand)} (ho : o.op = .buildSlice t len parts) (h : SR C st a w Pr b xs vs) (hg : gOk gd) (hD : wD_buildSlice C.P C.fi m gd dst t len parts st k) (hn : Goes C m st b a xs vs o.dst next k) :
    o.wp C.P a w next Q := by
  obtain ⟨us, st', hk, hS, hK, hm⟩ := h.wTs hD hg
  split at hk
  · rename_i e htd
    obtain ⟨hpos, hbig, hk⟩ := hk
    split at hk
    · rename_i zs hz
      obtain ⟨hst, hzl, hk⟩ := hk
      split at hk
      · rename_i cs hf
        obtain ⟨hfl, hk⟩ := hk
        have hu := tdOf_slice htd
        obtain ⟨i, z, hi, hzz, rfl⟩ := info_of_zero hz
        have hul : us.length = ((parts.toList.map (·.2)).map a.eval).length := by
          obtain ⟨Le, Ll, Lx, Lk, h0⟩ := hS
          have := h0.reg.length
          have h1 := h
          obtain ⟨_, _, _, _, h1⟩ := h1
          have h2 := h1.reg.length
          simp only [List.length_append, List.length_reverse] at this
          omega
        obtain ⟨Lu, Le, Ll, Lx, Lk, hu1, h0, hc, hn1⟩ := hS.out hul
        have hzsz : z.cells.size = C.P.cellsOf e := by simpa using hzl
        obtain ⟨arr, L', e1, e2, e3, e4⟩ := fill_sound (P := C.P) (w := w) (Pr := Pr) (bl := b :: C.bl0) (arr := (Array.range (len * z.cells.size)).map fun i => z.cells[i % z.cells.size]!) (L := [])
          (by rw [range_mod]; exact reps_replicate (reps_ofV _) len) (by rw [range_mod]; exact replicate_one (storable_all hst) len) hu1 hf
        have hasz : arr.size = len * C.P.cellsOf e := by
          have key : ∀ (l : List (Nat × Value)) (place : Nat → Option (Nat × Nat)) (ar ar' : Array Value), Instr.fill place ar l = some ar' → ar'.size = ar.size := by
            intro l
            induction l with
            | nil => intro place ar ar' h; simp only [Instr.fill, Option.some.injEq] at h; rw [h]
            | cons p l ih =>
              intro place ar ar' h
              obtain ⟨i, v⟩ := p
              simp only [Instr.fill] at h
              split at h
              · cases h
              · split at h
                · cases h
                · rw [ih _ _ _ h]
                  rw [← Array.foldl_toList]
                  have key2 : ∀ (l : List (Value × Nat)) (off : Nat) (ar : Array Value), (l.foldl (fun cs (x : Value × Nat) => cs.setIfInBounds (off + x.2) x.1) ar).size = ar.size := by
                    intro l
                    induction l with
                    | nil => intro off ar; rfl
                    | cons q l ih => intro off ar; rw [List.foldl_cons, ih]; simp
                  exact key2 _ _ _
          rw [key _ _ _ _ e1]; simp [hzsz]
        have hparts : (parts.map fun x => (x.1, a.eval x.2)).toList = (parts.toList.map (·.1)).zip ((parts.toList.map (·.2)).map a.eval) := by
          rw [Array.toList_map, List.map_map, List.zip_map']
          rfl
        have hcells := C.P.cellsOf e
        refine wp_val (v := .slice (some ⟨w.heap.size, 0, none⟩) len len) (w' := w.alloc (.cells arr e)) ?_ (hn _ _ _ _ _ _ hk (SR.newRow (C.fi.keeps dst) h0 (e2.flat hfl) e3 hpos hasz (by unfold maxLen; have := Nat.le_mul_of_pos_right len hpos; omega)
          (fun x => by have := hc x; have := e4 x; simp only [List.count_nil] at *; omega) (fun x hx => hn1 x (by have := e4 x; simp only [List.count_nil] at *; omega))) fun e => ⟨hm e, rfl⟩)
        have hbig' : ¬ (len * C.P.cellsOf e > 2 ^ 24) := by simpa using hbig
        simp only [execOp, ho, Instr.buildSlice, Sem.run_bind, run_underlying hu, Result.andThen_ok, Sem.run_pure, run_sizeOf_of hpos, if_neg hbig']
        by_cases h0' : len * C.P.cellsOf e = 0
        · have hl0 : len = 0 := by
            rcases Nat.mul_eq_zero.1 h0' with h | h
            · exact h
            · omega
          subst hl0
          simp only [Nat.zero_mul, if_true, Sem.run_pure, Result.andThen_ok] at e1 ⊢
          rw [hparts]
          have er : ∀ z : Array Value, (Array.range 0).map (fun i => z[i % z.size]!) = #[] := fun z => by simp
          rw [er] at e1
          simp only [pure_bind]
          rw [er, e1]
          simp [newRow]
        · simp only [if_neg h0', Sem.run_bind, zeroValue, typeInfo, run_program, Result.andThen_ok, hi, Sem.run_pure, hzz]
          rw [← hzsz, hparts] 
          rw [hzsz] at e1
          rw [hzsz, e1]
          simp [newRow]
      · exact hk.elim
    · exact hk.elim
  · exact hk.elim
end
end Go.Proofs.YtkefgpmnimpcdaaGreatDoor.Abs
/- Fields, elements, parts, lengths, conversions, appending. No condition. -/
set_option linter.unusedVariables false
set_option linter.unusedSimpArgs false
namespace Go.Proofs.YtkefgpmnimpcdaaGreatDoor.Abs
open Go
section
variable {P : Program} {w : World} {Pr : Addr → Prop}
variable {C : Cx} {st : St} {a : Act} {w' : World} {Pr' : Addr → Prop} {b : List Nat} {xs : List AC} {vs : List Value} {m : Bool} {gd : Option Bool} {dst : Option Nat}
  {next : Act → World → Prop} {Q : Exit → Act → World → Prop} {k : AC → St → Prop} {o : Oper}

theorem nil_of_count {M : List Nat} (h : ∀ x, M.count x ≤ ([] : List Nat).count x) : M = [] := by
  cases M with
  | nil => rfl
  | cons y M => have := h y; simp only [List.count_cons_self, List.count_nil] at this; omega

theorem Addr.add_add (p : Addr) (i j : Nat) : (p.add i).add j = p.add (i + j) := by
  unfold Addr.add
  by_cases hi : i = 0
  · subst hi; simp
  · by_cases hj : j = 0
    · subst hj; simp [hi]
    · simp [hi, hj, show i + j ≠ 0 by omega]; omega

theorem s_fieldAddr {s : TypeId} {x : Operand} {f : Nat} (ho : o.op = .fieldAddr s x f) (h : SR C st a w Pr b xs vs) (hg : gOk gd) (hD : wD_fieldAddr C.P C.fi m gd dst s x f st k) (hn : Goes C m st b a xs vs o.dst next k) :
    o.wp C.P a w next Q := by
  unfold wD_fieldAddr at hD
  split at hD
  · rename_i fs htd
    split at hD
    · rename_i off sz ft hf
      obtain ⟨hpos, hD⟩ := hD
      obtain ⟨gs, hu, hfs⟩ := tdOf_struct htd
      obtain ⟨u, hk, hr⟩ := h.un hD hg
      have hgf : ∃ fl, gs[f]? = some fl ∧ fl.offset = off ∧ C.P.cellsOf fl.type = sz := by
        rw [hfs, List.getElem?_map, Option.map_eq_some_iff] at hf
        obtain ⟨fl, h1, h2⟩ := hf
        simp only [Prod.mk.injEq] at h2
        exact ⟨fl, by simpa using h1, h2.1, h2.2.1⟩
      obtain ⟨fl, hgf, rfl, hsz⟩ := hgf
      have hne : ¬ C.P.cellsOf fl.type = 0 := by omega
      split at hk
      · rename_i uu i off'
        simp only [share] at hr
        generalize hv : a.eval x = z at hr
        cases hr with
        | ptr hgb =>
          rename_i g
          refine wp_quiet h hn hk (.ptr hgb) ?_
          simp [execOp, ho, Instr.fieldAt, run_underlying hu, hgf, hv, Instr.sureAddr, fieldPlace, run_sizeOf_of (show 0 < C.P.cellsOf fl.type by omega), hne, Addr.add_lit]
      · rename_i cells
        obtain ⟨hfit, hk⟩ := hk
        have hfit := hfit hg
        simp only [share] at hr
        generalize hv : a.eval x = z at hr
        cases hr with
        | ref hcs h1 hcc =>
          rename_i vals ad
          obtain ⟨L, ht, hL⟩ := hcs.take_drop fl.offset sz
          obtain rfl := nil_of_count hL
          refine wp_quiet h hn hk (.ref (ad := ad.add fl.offset) ht (fun v hv => h1 v (List.mem_of_mem_drop (List.mem_of_mem_take hv))) (fun j u hu => ?_)) ?_
          · rw [Addr.add_add]
            rw [List.getElem?_take] at hu
            split at hu
            · rw [List.getElem?_drop] at hu; exact hcc _ u hu
            · cases hu
          · simp [execOp, ho, Instr.fieldAt, run_underlying hu, hgf, hv, Instr.sureAddr, fieldPlace, run_sizeOf_of (show 0 < C.P.cellsOf fl.type by omega), hne]
      · simp only [share] at hr
        generalize hv : a.eval x = z at hr
        cases hr with
        | ept =>
          refine wp_quiet h hn hk .ept ?_
          simp [execOp, ho, Instr.fieldAt, run_underlying hu, hgf, hv, Instr.sureAddr, fieldPlace, run_sizeOf_of (show 0 < C.P.cellsOf fl.type by omega), hne, Addr.add_lit]
      · exact hk.elim
    · exact hD.elim
  · exact hD.elim

theorem s_index {t : TypeId} {x ix : Operand} (ho : o.op = .index t x ix) (h : SR C st a w Pr b xs vs) (hg : gOk gd) (hD : wD_index C.P C.fi m gd dst t x ix st k) (hn : Goes C m st b a xs vs o.dst next k) :
    o.wp C.P a w next Q := by
  unfold wD_index at hD
  obtain ⟨u1, hk, r1⟩ := h.un hD hg
  obtain ⟨u2, hk, r2⟩ := h.un hk hg
  split at hk
  · rename_i td s kk i htd _
    obtain ⟨hb, hk⟩ := hk
    have hb := hb hg
    have hu := tdOf_str htd
    simp only [share] at r1 r2
    generalize hv1 : a.eval x = z1 at r1
    generalize hv2 : a.eval ix = z2 at r2
    cases r2
    cases r1 with
    | str e l =>
      rename_i bs
      subst e
      refine wp_quiet h hn hk .int ?_
      have hi : i.toNat < bs.size := by
        have : bs.size = bs.data.toList.length := by rw [Array.length_toList]; rfl
        omega
      have e1 : bs[i.toNat]? = some (bs.data.toList.getD i.toNat 0) := by
        rw [getElem?_pos bs i.toNat hi]
        have hd : i.toNat < bs.data.size := hi
        have : bs.data.toList.getD i.toNat 0 = bs.data[i.toNat] := by
          rw [List.getD_eq_getElem?_getD, Array.getElem?_toList, Array.getElem?_eq_getElem hd]; rfl
        rw [this]; rfl
      simp only [execOp, ho, Instr.index, hv1, hv2, asIntOf, Sem.run_bind, Sem.run_pure, Result.andThen_ok, run_underlying hu, if_pos hb.1, e1]
  · exact hk.elim

/-- What may be read of a slice that others may look at, too. -/
theorem rep_sl {bl : List (List Nat)} {ow : Ow} {n : Nat} {cells : List AC} {z : Value} (hx : ow.isEx = false) (hr : Rep P w Pr bl (share (.sl ow n cells)) z []) :
    ∃ ad cap, z = .slice ad n cap ∧ n ≤ cap ∧ cap ≤ maxLen ∧ ((ad = none ∧ n = 0 ∧ cells = [] ∧ cap = 0) ∨ ∃ p vals, ad = some p ∧ Reps P w Pr [] (shareO ow cells) vals [] ∧ (∀ v ∈ vals, v.oneCell' = true) ∧
      (∀ j u, vals[j]? = some u → Pr (p.add j) ∧ w.cell? (p.add j) = some u)) := by
  cases ow with
  | no =>
    simp only [share] at hr
    cases hr with
    | slNo h1 h2 h3 h4 h5 => exact ⟨_, _, rfl, h4, h5, .inr ⟨_, _, rfl, h1, h2, h3⟩⟩
    | slNil => exact ⟨_, _, rfl, Nat.le_refl _, Nat.zero_le _, .inl ⟨rfl, rfl, rfl, rfl⟩⟩
  | nil =>
    simp only [share] at hr
    cases hr with
    | slNil => exact ⟨_, _, rfl, Nat.le_refl _, Nat.zero_le _, .inl ⟨rfl, rfl, rfl, rfl⟩⟩
  | of e =>
    simp only [share] at hr
    have hnil : shareL cells = [] → cells = [] := by cases cells <;> simp [shareL]
    simp only [shareO]
    generalize shareL cells = cs at hr hnil ⊢
    cases hr with
    | slNo h1 h2 h3 h4 h5 => exact ⟨_, _, rfl, h4, h5, .inr ⟨_, _, rfl, h1, h2, h3⟩⟩
    | slNil => exact ⟨_, _, rfl, Nat.le_refl _, Nat.zero_le _, .inl ⟨rfl, rfl, hnil rfl, rfl⟩⟩
  | ex e => simp [Ow.isEx] at hx

theorem shareO_take {ow : Ow} {cells : List AC} (i j : Nat) : shareO ow ((cells.drop i).take j) = ((shareO ow cells).drop i).take j := by
  cases ow <;> simp only [shareO] <;> first | rfl | rw [shareL_eq, shareL_eq, List.map_take, List.map_drop]
theorem shareO_length {ow : Ow} {cells : List AC} : (shareO ow cells).length = cells.length := by
  cases ow <;> simp only [shareO, shareL_length]

theorem s_indexAddr {t : TypeId} {x ix : Operand} (ho : o.op = .indexAddr t x ix) (h : SR C st a w Pr b xs vs) (hg : gOk gd) (hD : wD_indexAddr C.P C.fi m gd dst t x ix st k) (hn : Goes C m st b a xs vs o.dst next k) :
    o.wp C.P a w next Q := by
  unfold wD_indexAddr at hD
  obtain ⟨u1, hk, r1⟩ := h.un hD hg
  obtain ⟨u2, hk, r2⟩ := h.un hk hg
  split at hk
  · rename_i td e ow n cells kk i htd _
    obtain ⟨hex, hb, hpos, hcl, hk⟩ := hk
    have hb := hb hg
    have hu := tdOf_slice htd
    simp only [share] at r2
    generalize hv1 : a.eval x = z1 at r1
    generalize hv2 : a.eval ix = z2 at r2
    cases r2
    obtain ⟨ad0, cap, rfl, _, _, key⟩ := rep_sl hex r1
    rcases key with ⟨_, rfl, _⟩ | ⟨ad, vals, rfl, hcs, h1, hcc⟩
    · omega
    obtain ⟨L, ht, hL⟩ := hcs.take_drop (i.toNat * C.P.cellsOf e) (C.P.cellsOf e)
    obtain rfl := nil_of_count hL
    refine wp_quiet h hn hk (.ref (ad := ad.add (i.toNat * C.P.cellsOf e)) (by rw [shareO_take]; exact ht) (fun v hv => h1 v (List.mem_of_mem_drop (List.mem_of_mem_take hv))) (fun j u hu => ?_)) ?_
    · rw [Addr.add_add]
      rw [List.getElem?_take] at hu
      split at hu
      · rw [List.getElem?_drop] at hu; exact hcc _ u hu
      · cases hu
    · have hb' : 0 ≤ i ∧ i < (n : Int) := hb
      simp [execOp, ho, Instr.indexAt, hv1, hv2, asIntOf, run_underlying hu, hb'.1, hb'.2, run_sizeOf_of hpos]
  · rename_i td s y n kk i e htd _
    obtain ⟨hb, hpos, hk⟩ := hk
    have hb := hb hg
    have hu := tdOf_slice htd
    simp only [share] at r1 r2
    generalize hv1 : a.eval x = z1 at r1
    generalize hv2 : a.eval ix = z2 at r2
    cases r2
    cases r1 with
    | als hn0 hb0 =>
      obtain ⟨hb1, hb2⟩ := hb
      rcases hb0 with ⟨_, e⟩ | ⟨g, rfl⟩
      · omega
      · refine wp_quiet h hn hk .ept ?_
        simp [execOp, ho, Instr.indexAt, hv1, hv2, asIntOf, run_underlying hu, hb1, hb2, run_sizeOf_of hpos, Addr.add_lit]
  · rename_i td e s g l n c kk i htd _
    obtain ⟨hb, hone, hk⟩ := hk
    obtain ⟨hb1, hb2⟩ := hb hg
    have hu := tdOf_slice htd
    simp only [share] at r1 r2
    generalize hv1 : a.eval x = z1 at r1
    generalize hv2 : a.eval ix = z2 at r2
    cases r2
    cases r1 with
    | alsA =>
      refine wp_quiet h hn hk .ept ?_
      have hadd : ∀ j : Nat, (⟨g, l, none⟩ : Addr).add j = ⟨g, j + l, none⟩ := fun j => by
        unfold Addr.add
        split
        · rename_i e0; subst e0; simp
        · simp [Nat.add_comm]
      have hpos := Nat.lt_of_lt_of_eq Nat.one_pos hone.symm
      simp [execOp, ho, Instr.indexAt, hv1, hv2, asIntOf, run_underlying hu, hb1, hb2, run_sizeOf_of hpos, hone, hadd]
  · exact hk.elim

theorem s_len {t : TypeId} {ts : Array TypeId} {x : Operand} (ho : o.op = .call { callee := .builtin .len, args := #[x], argTypes := ts }) (ht : ts[0]? = some t) (h : SR C st a w Pr b xs vs) (hg : gOk gd)
    (hD : un gd (st.ev x) fun v => wLen gd (tdOf C.P t) v fun v => k v st) (hn : Goes C m st b a xs vs o.dst next k) : o.wp C.P a w next Q := by
  obtain ⟨u, hk, hrep, hr1⟩ := un_share hD hg
  have hr := hr1 (h.ev x)
  clear hr1
  unfold wLen at hk
  split at hk
  · rename_i htd
    have hu := tdOf_str htd
    simp only [share] at hr
    generalize hv : a.eval x = z at hr
    cases hr with
    | str e l =>
      rename_i bs
      subst e
      have e2 : (bs.size : Int) = (bs.data.toList.length : Int) := by rw [Array.length_toList]; rfl
      refine wp_quiet h hn (hk fun _ => l) .int ?_
      simp [execOp, ho, resolve, invoke, builtin, Builtin.len_, ht, hv, run_underlying hu, goInt]
  · rename_i o' n cells htd
    have hu := tdOf_slice htd
    obtain ⟨Le, Ll, Lx, Lk, h0⟩ := h
    have full : ∃ L, Rep C.P w Pr (b :: C.bl0) (st.ev x) (a.eval x) L := by
      cases x with
      | tmp t => obtain ⟨L, hl, _⟩ := h0.get t; exact ⟨L, hl⟩
      | const v => exact ⟨[], rep_ofV v⟩
      | func f => exact ⟨[], .fn (by simp) .nil⟩
      | global g => exact ⟨[], .undef⟩
    obtain ⟨L, hf⟩ := full
    have hr := hrep hf
    generalize hv : a.eval x = z at hr
    have key : ∃ ad cap, z = .slice ad n cap ∧ n ≤ maxLen := by
      cases hr with
      | slNo _ _ _ h4 h5 => exact ⟨_, _, rfl, Nat.le_trans h4 h5⟩
      | slNil => exact ⟨_, _, rfl, Nat.zero_le _⟩
      | slOf _ _ _ h4 h5 => exact ⟨_, _, rfl, Nat.le_trans h4 h5⟩
      | slEx _ _ _ h4 h5 => exact ⟨_, _, rfl, Nat.le_trans h4 h5⟩
    obtain ⟨ad, cap, rfl, hle⟩ := key
    refine wp_quiet ⟨Le, Ll, Lx, Lk, h0⟩ hn (hk fun _ => hle) .int ?_
    simp [execOp, ho, resolve, invoke, builtin, Builtin.len_, ht, hv, run_underlying hu, goInt]
  · rename_i s o' y n htd
    have hu := tdOf_slice htd
    simp only [share] at hr
    generalize hv : a.eval x = z at hr
    cases hr with
    | als hle _ =>
      refine wp_quiet h hn (hk fun _ => hle.2) .int ?_
      simp [execOp, ho, resolve, invoke, builtin, Builtin.len_, ht, hv, run_underlying hu, goInt]
  · rename_i s o' p n c htd
    have hu := tdOf_slice htd
    simp only [share] at hr
    generalize hv : a.eval x = z at hr
    cases hr with
    | alsA =>
      refine wp_quiet h hn hk .int ?_
      simp [execOp, ho, resolve, invoke, builtin, Builtin.len_, ht, hv, run_underlying hu, goInt]
  · exact absurd hg hk.1
  · exact hk.elim
end
end Go.Proofs.YtkefgpmnimpcdaaGreatDoor.Abs
/- Fields by value, parts of strings and slices, made slices, conversions, appending. No condition. -/
set_option linter.unusedVariables false
set_option linter.unusedSimpArgs false
namespace Go.Proofs.YtkefgpmnimpcdaaGreatDoor.Abs
open Go
section
variable {P : Program} {w : World} {Pr : Addr → Prop}
variable {C : Cx} {st : St} {a : Act} {w' : World} {Pr' : Addr → Prop} {b : List Nat} {xs : List AC} {vs : List Value} {m : Bool} {gd : Option Bool} {dst : Option Nat}
  {next : Act → World → Prop} {Q : Exit → Act → World → Prop} {k : AC → St → Prop} {o : Oper}

theorem s_field {s : TypeId} {x : Operand} {f : Nat} (ho : o.op = .field s x f) (h : SR C st a w Pr b xs vs) (hg : gOk gd) (hD : wD_field C.P C.fi m gd dst s x f st k) (hn : Goes C m st b a xs vs o.dst next k) :
    o.wp C.P a w next Q := by
  unfold wD_field at hD
  split at hD
  · rename_i fs htd
    split at hD
    · rename_i off sz ft hf
      obtain ⟨hpos, rfl, hgood, hD⟩ := hD
      obtain ⟨gs, hu, hfs⟩ := tdOf_struct htd
      obtain ⟨u, hk, hr⟩ := h.un hD hg
      have hgf : ∃ fl, gs[f]? = some fl ∧ fl.offset = off ∧ fl.type = ft := by
        rw [hfs, List.getElem?_map, Option.map_eq_some_iff] at hf
        obtain ⟨fl, h1, h2⟩ := hf
        simp only [Prod.mk.injEq] at h2
        exact ⟨fl, by simpa using h1, h2.1, h2.2.2⟩
      obtain ⟨fl, hgf, rfl, rfl⟩ := hgf
      split at hk
      · rename_i cells
        obtain ⟨hfit, hk⟩ := hk
        simp only [share] at hr
        generalize hv : a.eval x = z at hr
        have key : ∃ vals, z = .agg vals.toArray ∧ Reps C.P w Pr (b :: C.bl0) (shareL cells) vals [] ∧ ∀ v ∈ vals, v.oneCell' = true := by
          generalize shareL cells = cs at hr ⊢
          cases hr with
          | agg h1 h2 => exact ⟨_, rfl, h1, h2⟩
        obtain ⟨vals, rfl, hcs, h1⟩ := key
        have hlen := hcs.length
        rw [shareL_length] at hlen
        obtain ⟨L, ht, hL⟩ := hcs.take_drop fl.offset (C.P.cellsOf fl.type)
        obtain rfl := nil_of_count hL
        obtain ⟨d, hu', hna, hst⟩ := goodTy_und hgood
        have h1' : ∀ v ∈ (vals.drop fl.offset).take (C.P.cellsOf fl.type), v.oneCell' = true := fun v hv => h1 v (List.mem_of_mem_drop (List.mem_of_mem_take hv))
        have esh : share (mkVal C.P fl.type ((cells.drop fl.offset).take (C.P.cellsOf fl.type))) = mkVal C.P fl.type (((shareL cells).drop fl.offset).take (C.P.cellsOf fl.type)) := by
          rw [shareL_eq, ← List.map_drop, ← List.map_take]
          unfold mkVal
          split
          · simp only [share, shareL_eq]
          · cases (cells.drop fl.offset).take (C.P.cellsOf fl.type) <;> simp [share]
        by_cases hs : ∃ fs, tdOf C.P fl.type = .struct fs
        · obtain ⟨fs', hfs'⟩ := hs
          obtain ⟨gs', rfl⟩ := hst.2 ⟨fs', hfs'⟩
          refine wp_quiet (v := .agg ((vals.drop fl.offset).take (C.P.cellsOf fl.type)).toArray) h hn hk (by rw [esh]; simp only [mkVal, hfs']; exact .agg ht h1') ?_
          simp only [execOp, ho, Instr.field, hv, Sem.run_bind, run_underlying hu, Result.andThen_ok, hgf, asAgg, Sem.run_pure, part, run_isAgg_of hu', isAggD, if_true, run_sizeOf_of hpos]
          congr 3
          apply Array.ext'
          simp [List.drop_take, Nat.add_sub_cancel_left]
        · have hd : isAggD d = false := by
            cases d <;> first | rfl | exact absurd (hst.1 ⟨_, rfl⟩) hs | exact absurd rfl (hna _ _)
          have hv0 : ∃ v, vals[fl.offset]? = some v := ⟨_, List.getElem?_eq_getElem (by omega)⟩
          obtain ⟨v, hv0⟩ := hv0
          refine wp_quiet (v := v) h hn hk ?_ ?_
          · rw [esh]
            have e : ∀ cs, mkVal C.P fl.type cs = cs.headD .undef := by
              intro cs; unfold mkVal; split
              · rename_i fs h; exact absurd ⟨fs, h⟩ hs
              · rfl
            rw [e]
            have hh : ((vals.drop fl.offset).take (C.P.cellsOf fl.type))[0]? = some v := by
              rw [List.getElem?_take, if_pos hpos, List.getElem?_drop]; simpa using hv0
            cases hcs' : ((shareL cells).drop fl.offset).take (C.P.cellsOf fl.type) with
            | nil => simp; exact .undef
            | cons c cs =>
              rw [hcs'] at ht
              cases hvs : (vals.drop fl.offset).take (C.P.cellsOf fl.type) with
              | nil => rw [hvs] at hh; simp at hh
              | cons v' vs' =>
                rw [hvs] at ht hh
                simp at hh; subst hh
                simpa using (Reps.nil_split ht).1
          · simp [execOp, ho, Instr.field, hv, run_underlying hu, hgf, asAgg, part, run_isAgg_of hu', hd, hv0]
      · rename_i sl yv nn
        obtain ⟨hes, hm, hk⟩ := hk
        split at hk
        · rename_i y' cells hs
          obtain ⟨hyy, hk⟩ := hk
          subst hyy
          split at hk
          · rename_i te e2 n2 cs2 htd2 hoff
            obtain ⟨hone, hk⟩ := hk
            simp only [share] at hr
            generalize hv : a.eval x = z at hr
            have hzy : z = y' := by cases hr <;> rfl
            subst hzy
            obtain ⟨Le, Ll, Lx, Lk, h0⟩ := h
            obtain ⟨xv, Lv, Lr, hxv, hrs, hLc, hset⟩ := h0.slot hs (by simp)
            have hval := hrs.nam_val
            have hrs := hrs.nam_inv
            subst hval
            cases hrs with
            | agg hcs h1 =>
              rename_i vals
              obtain ⟨v0, Li, L', hv0, hr0, hc0, hput⟩ := hcs.takeAt hoff
              have hrun : (execOp a.eval o).run C.P w = .ok (.value v0) w := by
                have hne : ¬ ∃ fs, tdOf C.P fl.type = .struct fs := by rintro ⟨fs', h'⟩; rw [htd2] at h'; cases h'
                obtain ⟨d, hu', hna, hst⟩ := goodTy_und hgood
                have hd : isAggD d = false := by
                  cases d <;> first | rfl | exact absurd (hst.1 ⟨_, rfl⟩) hne | exact absurd rfl (hna _ _)
                simp [execOp, ho, Instr.field, hv, run_underlying hu, hgf, asAgg, part, run_isAgg_of hu', hd, hv0]
              obtain ⟨L2, k10, k11⟩ := hput _ _ (Rep.nam hr0)
              obtain ⟨eK, kE, kL, hset⟩ := hset (.nam (.agg vals.toArray) (.agg (cells.set fl.offset (.nam v0 (.sl (.ex e2) n2 cs2)))))
              obtain ⟨Le', Ll', g1, g2, g3⟩ := hset w Pr _ _ (fun c z M hM _ => hM) (.nam (.agg k10 h1))
              have hS : SR C (st.setAt sl (.nam (.agg vals.toArray) (.agg (cells.set fl.offset (.nam v0 (.sl (.ex e2) n2 cs2)))))) a w Pr b xs vs := by
                refine ⟨Le', Ll', Lx, Lk, { h0 with env := g1, loc := g2, K := by rw [eK]; exact h0.K, cnt := fun z => ?_, new := fun z hz => h0.new z ?_, kE := kE, kL := kL }⟩
                · have := h0.cnt z; have := g3 z; have := hLc z; have := k11 z; have := hc0 z
                  omega
                · have := g3 z; have := hLc z; have := k11 z; have := hc0 z
                  omega
              refine wp_val hrun (hn _ _ _ _ _ b (hk v0) (hS.push ?_) fun e => by rw [hm] at e; cases e)
              cases hr0 with
              | slEx _ _ _ h4 h5 => exact .als ⟨h4, Nat.le_trans h4 h5⟩ (.inr ⟨_, rfl⟩)
              | slNil => exact .als ⟨Nat.le_refl _, Nat.zero_le _⟩ (.inl ⟨rfl, rfl⟩)
          · exact hk.elim
        · exact hk.elim
      · exact hk.elim
    · exact hD.elim
  · exact hD.elim

theorem optInt_sound {x : Option Operand} {d : Int} {kk : Int → Prop} (h : SR C st a w Pr b xs vs) (hD : optInt gd st d x kk) (hg : gOk gd) :
    ∃ n, kk n ∧ ((x = none ∧ n = d) ∨ ∃ y j, x = some y ∧ a.eval y = .int j n) := by
  cases x with
  | none => exact ⟨d, hD, .inl ⟨rfl, rfl⟩⟩
  | some y =>
    obtain ⟨u, hk, hr⟩ := h.un hD hg
    split at hk
    · simp only [share] at hr
      generalize hv : a.eval y = z at hr
      cases hr
      exact ⟨_, hk, .inr ⟨y, _, rfl, hv⟩⟩
    · exact hk.elim

theorem run_bounds {isS : Bool} {lo hi : Option Operand} {l h : Int} {len cap : Nat} (hl : (lo = none ∧ l = 0) ∨ ∃ z j, lo = some z ∧ a.eval z = .int j l) (hh : (hi = none ∧ h = (len : Int)) ∨ ∃ z j, hi = some z ∧ a.eval z = .int j h)
    (h0 : 0 ≤ l) (h1 : l ≤ h) (h2 : h ≤ len) (h3 : len ≤ cap) : (Instr.sliceBounds isS len cap (lo.map a.eval) (hi.map a.eval) none).run P w = .ok (l.toNat, h.toNat, cap) w := by
  have h4 : 0 ≤ h := by omega
  have h5 : h ≤ (cap : Int) := by omega
  have h6 : l ≤ (h.toNat : Int) := by omega
  rcases hl with ⟨rfl, rfl⟩ | ⟨z, j, rfl, e⟩
  · rcases hh with ⟨rfl, rfl⟩ | ⟨z', j', rfl, e'⟩
    · simp [Instr.sliceBounds]
    · simp [Instr.sliceBounds, Instr.sliceBound, e', asIntOf, h4, h5]
  · rcases hh with ⟨rfl, rfl⟩ | ⟨z', j', rfl, e'⟩
    · simp [Instr.sliceBounds, Instr.sliceBound, e, asIntOf, h0, h1]
    · simp [Instr.sliceBounds, Instr.sliceBound, e, e', asIntOf, h0, h4, h5, h6]; intro hx; omega

theorem s_slice {t : TypeId} {x : Operand} {lo hi mx : Option Operand} (ho : o.op = .slice t x lo hi mx) (h : SR C st a w Pr b xs vs) (hg : gOk gd) (hD : wD_slice C.P C.fi m gd dst t x lo hi mx st k) (hn : Goes C m st b a xs vs o.dst next k) :
    o.wp C.P a w next Q := by
  obtain ⟨rfl, hD⟩ := hD
  obtain ⟨u, hk, hr⟩ := h.un hD hg
  split at hk
  · rename_i s htd
    have hu := tdOf_str htd
    simp only [share] at hr
    generalize hv : a.eval x = z at hr
    cases hr with
    | str e l =>
      rename_i bs
      subst e
      obtain ⟨lv, hk, hl⟩ := optInt_sound h hk hg
      obtain ⟨hv', hk, hh⟩ := optInt_sound h hk hg
      obtain ⟨hb, hk⟩ := hk
      obtain ⟨b0, b1, b2⟩ := hb hg
      have esz : bs.data.toList.length = bs.size := by rw [Array.length_toList]; rfl
      have r1 := run_bounds (P := C.P) (w := w) (a := a) (isS := false) (len := bs.size) (cap := bs.size) hl (by rw [← esz]; exact hh) b0 b1 (by omega) (Nat.le_refl _)
      refine wp_quiet (v := .string (bs.extract lv.toNat hv'.toNat)) h hn hk (.str ?_ (by simp; omega)) ?_
      · obtain ⟨⟨l⟩⟩ := bs
        rw [ByteArray.extract_mk, List.drop_take]
      · simp only [execOp, ho, Instr.sliceAt, Instr.slice, Sem.run_bind, run_underlying hu, Result.andThen_ok, hv, Option.map_none, Option.isSome_none, Bool.false_eq_true, if_false, Sem.run_pure, r1]
  · rename_i e ow n cells htd
    have hu := tdOf_slice htd
    generalize hv : a.eval x = z at hr
    obtain ⟨lv, hk, hl⟩ := optInt_sound h hk hg
    obtain ⟨hv', hk, hh⟩ := optInt_sound h hk hg
    obtain ⟨hex, hb, hk⟩ := hk
    obtain ⟨ad, cap, rfl, hle, hcm, hcs⟩ := rep_sl hex hr
    obtain ⟨hpos, b0, b1, b2⟩ := hb hg
    have r1 := run_bounds (P := C.P) (w := w) (a := a) (isS := true) (len := n) (cap := cap) hl hh b0 b1 b2 hle
    have hrun : (execOp a.eval o).run C.P w = .ok (.value (.slice (if cap = lv.toNat then ad else ad.map (·.add (lv.toNat * C.P.cellsOf e))) (hv'.toNat - lv.toNat) (cap - lv.toNat))) w := by
      simp only [execOp, ho, Instr.sliceAt, Instr.slice, Sem.run_bind, run_underlying hu, Result.andThen_ok, hv, Option.map_none, Option.isSome_none, Bool.false_eq_true, if_false, Sem.run_pure, r1, run_sizeOf_of hpos]
    refine wp_quiet h hn hk ?_ hrun
    have esh : shareO ow ((cells.take (hv'.toNat * C.P.cellsOf e)).drop (lv.toNat * C.P.cellsOf e)) = ((shareO ow cells).take (hv'.toNat * C.P.cellsOf e)).drop (lv.toNat * C.P.cellsOf e) := by
      cases ow <;> simp only [shareO] <;> first | rfl | rw [shareL_eq, shareL_eq, List.map_drop, List.map_take]
    rcases hcs with ⟨rfl, rfl, rfl, rfl⟩ | ⟨p, vals, rfl, h1, h2, h3⟩
    · have e1 : lv.toNat = 0 := by omega
      have e2 : hv'.toNat = 0 := by omega
      have e3 : shareO ow ([] : List AC) = [] := by cases ow <;> rfl
      simp only [e1, e2, List.take_nil, List.drop_nil, e3, if_true, Nat.sub_self]
      exact .slNil
    · rw [esh]
      have h1' := h1
      rw [← List.take_append_drop (hv'.toNat * C.P.cellsOf e) (shareO ow cells)] at h1'
      obtain ⟨v1, v2, L1, L2, rfl, hL, hl1, g1, _⟩ := h1'.split
      obtain ⟨rfl, rfl⟩ := List.append_eq_nil_iff.1 hL.symm
      rw [← List.take_append_drop (lv.toNat * C.P.cellsOf e) ((shareO ow cells).take (hv'.toNat * C.P.cellsOf e))] at g1
      obtain ⟨u1, u2, M1, M2, rfl, hM, hl2, _, g2⟩ := g1.split
      obtain ⟨rfl, rfl⟩ := List.append_eq_nil_iff.1 hM.symm
      have hone : ∀ v ∈ u2, v.oneCell' = true := fun v hv => h2 v (by simp [hv])
      by_cases hc : cap = lv.toNat
      · have hz : hv'.toNat - lv.toNat = 0 := by omega
        have hu2 : u2 = [] := by
          have := g2.length
          have e3 : hv'.toNat = lv.toNat := by omega
          rw [e3, List.drop_take_self] at this
          exact List.eq_nil_of_length_eq_zero (by simpa using this.symm)
        subst hu2
        simp only [hc, if_true]
        exact .slNo g2 hone (fun j u hu => by simp at hu) (by omega) (by omega)
      · simp only [if_neg hc, Option.map_some]
        refine .slNo g2 hone (fun j u hu => ?_) (by omega) (by omega)
        rw [Addr.add_add]
        by_cases hsh : lv.toNat * C.P.cellsOf e ≤ ((shareO ow cells).take (hv'.toNat * C.P.cellsOf e)).length
        · have hlu : u1.length = lv.toNat * C.P.cellsOf e := by rw [hl2, List.length_take]; omega
          refine h3 _ u ?_
          rw [List.getElem?_append_left (by simp; have := (List.getElem?_eq_some_iff.1 hu).1; omega), List.getElem?_append_right (by omega)]
          rw [hlu, Nat.add_sub_cancel_left]; exact hu
        · have := g2.length
          rw [List.drop_eq_nil_of_le (by omega)] at this
          have : u2 = [] := List.eq_nil_of_length_eq_zero this.symm
          subst this; simp at hu
  · rename_i td e s y n htd
    have hu := tdOf_slice htd
    obtain ⟨_, _, rfl, hk⟩ := hk
    simp only [share] at hr
    generalize hv : a.eval x = z at hr
    obtain ⟨lv, hk, hl⟩ := optInt_sound h hk hg
    obtain ⟨hb, hone, hk⟩ := hk
    obtain ⟨b0, b1, b2⟩ := hb hg
    cases hr with
    | als hn0 hb0 =>
      rename_i base cap _
      rcases hb0 with ⟨_, e0⟩ | ⟨g, rfl⟩
      · omega
      · have hpos : 0 < C.P.cellsOf e := by omega
        have r1 := run_bounds (P := C.P) (w := w) (a := a) (isS := true) (len := n) (cap := cap) hl (.inl ⟨rfl, rfl⟩) b1 (by omega) (by omega) hn0.1
        simp only [Option.map_none] at r1
        have hrun : (execOp a.eval o).run C.P w = .ok (.value (.slice (if cap = lv.toNat then some ⟨g, 0, none⟩ else (some (⟨g, 0, none⟩ : Addr)).map (·.add (lv.toNat * C.P.cellsOf e))) (((n : Int)).toNat - lv.toNat) (cap - lv.toNat))) w := by
          simp only [execOp, ho, Instr.sliceAt, Instr.slice, Sem.run_bind, run_underlying hu, Result.andThen_ok, hv, Option.map_none, Option.isSome_none, Bool.false_eq_true, if_false, Sem.run_pure, r1, run_sizeOf_of hpos]
        have hadd : (⟨g, 0, none⟩ : Addr).add lv.toNat = ⟨g, lv.toNat, none⟩ := by
          unfold Addr.add
          split
          · rename_i e0; rw [e0]
          · simp
        rw [hone, Nat.mul_one, Option.map_some, hadd, Int.toNat_natCast] at hrun
        exact wp_quiet h hn (hk _ (cap - lv.toNat) fun hln => ⟨g, by rw [if_neg (by omega)], by rw [Nat.sub_add_cancel (by omega), Nat.sub_add_cancel (by omega)]⟩) .alsA hrun
  · exact hk.elim
end
end Go.Proofs.YtkefgpmnimpcdaaGreatDoor.Abs
