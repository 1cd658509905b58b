/- Abstract cells, abstract states and a weakest precondition over the code of a function: definitions. No condition. -/
import Derived.Laws.AppendOwn
import Derived.Orders
import Derived.Deep.LoopGhost
import Derived.Tactics
import Derived.Laws.Cells
import Derived.Laws.Strings
import Derived.Laws.Slices
import Derived.Extends
import Derived.Lib.DecodeN
import Derived.Lib.Space
set_option linter.unusedVariables false
namespace Go.Proofs.YtkpdlbidadcdjaaDoor.Abs
open Go

/-- Who holds a slice: 'no': others may, too; 'nil': it is nil; 'of e': nobody else, its elements are of type e (or it is nil); they stay as they are.
'ex e': nobody else, and nobody else looks at it: its elements may be written. -/
inductive Ow where
  | no | nil | of (e : TypeId) | ex (e : TypeId)

/-- An abstract value. 'sl own n cells': a slice of n elements, its cells one behind the other. 'nam x v': the value x itself, which is a v.
'ept t x off': a pointer to a cell of the slice x (slot t holds it); 'als t o x n': the slice x of n elements, which slot t (or the cell o in it) holds. -/
inductive AC where
  | bool (b : Bool)
  | int (k : IntKind) (n : Int)
  | str (s : List UInt8)
  | sl (own : Ow) (n : Nat) (cells : List AC)
  | agg (cells : List AC)
  | tup (vs : List AC)
  | ptr (u i off : Nat)
  | ref (cells : List AC)
  | fn (f : FuncId) (caps : List AC)
  | opt (g : Bool) (v : AC)
  | nam (x : Value) (v : AC)
  | ept (t : Nat) (x : Value) (off : Nat)
  | als (t : Nat) (o : Option Nat) (x : Value) (n : Option Nat)
  | undef
instance : Inhabited AC := ⟨.undef⟩

def Ow.share : Ow → Ow
  | .nil => .nil
  | _ => .no
def Ow.isEx : Ow → Bool
  | .ex _ => true
  | _ => false

mutual
def share : AC → AC
  | .sl .no n cs => .sl .no n cs
  | .sl .nil n cs => .sl .nil n cs
  | .sl (.of _) n cs => .sl .no n (shareL cs)
  | .sl (.ex _) _ _ => .undef
  | .nam _ v => share v
  | .ept t x o => .ept t x o
  | .als t o x n => .als t o x n
  | .agg cs => .agg (shareL cs)
  | .tup vs => .tup (shareL vs)
  | .opt g v => .opt g (share v)
  | .bool b => .bool b
  | .int k n => .int k n
  | .str s => .str s
  | .ptr u i o => .ptr u i o
  | .ref cs => .ref cs
  | .fn f c => .fn f c
  | .undef => .undef
def shareL : List AC → List AC
  | [] => []
  | c :: cs => share c :: shareL cs
end

mutual
/-- What may be looked at while nobody writes. -/
def lendS : AC → AC
  | .sl .nil n cs => .sl .nil n cs
  | .sl .no n cs => .sl .no n cs
  | .sl (.of _) n cs => .sl .no n (lendL cs)
  | .sl (.ex _) n cs => .sl .no n (lendL cs)
  | .agg cs => .agg (lendL cs)
  | .tup vs => .tup (lendL vs)
  | .opt g v => .opt g (lendS v)
  | .nam _ v => lendS v
  | .bool b => .bool b
  | .int k n => .int k n
  | .str s => .str s
  | .ptr u i o => .ptr u i o
  | .ref cs => .ref cs
  | .fn f c => .fn f c
  | .ept t x o => .ept t x o
  | .als t o x n => .als t o x n
  | .undef => .undef
def lendL : List AC → List AC
  | [] => []
  | c :: cs => lendS c :: lendL cs
end

mutual
/-- Does it hold all that it reaches alone? -/
def closed : AC → Bool
  | .bool _ => true
  | .int _ _ => true
  | .str _ => true
  | .sl .nil _ _ => true
  | .sl (.of _) _ cs => closedL cs
  | .sl (.ex _) _ cs => closedL cs
  | .agg cs => closedL cs
  | .tup vs => closedL vs
  | _ => false
def closedL : List AC → Bool
  | [] => true
  | c :: cs => closed c && closedL cs
end

mutual
/-- The same, with the right to write. -/
def toEx : AC → AC
  | .sl (.of e) n cs => .sl (.ex e) n (toExL cs)
  | .sl (.ex e) n cs => .sl (.ex e) n (toExL cs)
  | .agg cs => .agg (toExL cs)
  | .tup vs => .tup (toExL vs)
  | v => v
def toExL : List AC → List AC
  | [] => []
  | c :: cs => toEx c :: toExL cs
end

mutual
/-- No names. -/
def unx : AC → AC
  | .sl (.ex e) n cs => .sl (.ex e) n (unxL cs)
  | .agg cs => .agg (unxL cs)
  | .tup vs => .tup (unxL vs)
  | .nam _ v => unx v
  | v => v
def unxL : List AC → List AC
  | [] => []
  | c :: cs => unx c :: unxL cs
end

/-- A map of pointers, on cells and on values. -/
def mapC (f : AC → AC) : AC → AC
  | .ptr u i o => f (.ptr u i o)
  | .fn g caps => .fn g (caps.map f)
  | .agg _ => .undef
  | .tup _ => .undef
  | .opt _ _ => .undef
  | .nam x (.sl o n cs) => .nam x (.sl o n cs)
  | .nam _ _ => .undef
  | v => v
def mapV (f : AC → AC) : AC → AC
  | .agg cs => .agg (cs.map (mapC f))
  | .nam x (.agg cs) => .nam x (.agg (cs.map (mapC f)))
  | v => mapC f v

/-- A pointer seen from n frames further in. -/
def liftP (n : Nat) : AC → AC
  | .ptr u i o => .ptr (u + n) i o
  | v => v

/-- A pointer seen from n frames further out: none where it points into one of the n. -/
def lowP (n : Nat) : AC → Option AC
  | .ptr u i o => if n ≤ u then some (.ptr (u - n) i o) else none
  | v => some v
def lowC (n : Nat) : AC → Option AC
  | .ptr u i o => if n ≤ u then some (.ptr (u - n) i o) else none
  | .fn f caps => (caps.mapM (lowP n)).map (.fn f)
  | .agg _ => none
  | .tup _ => none
  | .opt _ _ => none
  | .nam _ (.sl o n cs) => some (.sl o n cs)
  | .nam _ _ => none
  | v => some v

/-- What a type is to the abstract machine. -/
inductive TD where
  | bool | int (k : IntKind) | str | slice (e : TypeId) | struct (fs : List (Nat × Nat × TypeId)) | ptr | bad

def tdOf (P : Program) (t : TypeId) : TD :=
  match P.underlying t with
  | some .bool => .bool
  | some (.int k) => .int k
  | some .string => .str
  | some (.slice e) => .slice e
  | some (.struct fs) => .struct (fs.toList.map fun f => (f.offset, P.cellsOf f.type, f.type))
  | some (.pointer _) => .ptr
  | some (.func ..) => .ptr
  | _ => .bad

/-- A constant's abstract value. -/
def ofV : Value → AC
  | .bool b => .bool b
  | .int k n => .int k n
  | .string s => if s.data.toList.length < 1000000 then .str s.data.toList else .undef
  | .slice none 0 0 => .sl .nil 0 []
  | _ => .undef

/-- What may lie in a slice's cell. -/
def flat : AC → Bool
  | .bool _ => true
  | .int _ _ => true
  | .str _ => true
  | .sl _ _ _ => true
  | .undef => true
  | _ => false

structure St where
  env : List (Nat × AC)
  loc : List (Nat × AC)
  K : List (List (List AC))

/-- What the proof says of a function's slots: which live on from region to region; which take over what they copy. -/
structure FI where
  n0 : Nat
  ex : List Nat
  tk : List Nat
  /-- New slices in these slots may be written. -/
  kp : List Nat := []
  /-- Elements are written and read where a slot alone holds them. -/
  es : Bool := false
  /-- The calls of these regions look at what slots alone hold, and keep nothing of it. -/
  xr : List Nat := []
  /-- These functions write what their first argument alone holds. -/
  bw : List FuncId := []
  /-- The calls in these slots yield, whatever the boxes are, what qr tells: where orders are drawn. -/
  qs : List Nat := []
  qr : List (Nat × AC) := []
  /-- Ahead of these regions what the function's own boxes hold is theirs alone: all else that needs a promise is let go. -/
  th : List Nat := []

def look (k : Nat) : List (Nat × AC) → Option AC
  | [] => none
  | (k', v) :: r => if k = k' then some v else look k r

def setE (k : Nat) (v : AC) : List (Nat × AC) → List (Nat × AC)
  | [] => [(k, v)]
  | (k', v') :: r => if k = k' then (k, v) :: r else (k', v') :: setE k v r

def FI.isVar (fi : FI) (k : Nat) : Bool := if k < fi.n0 then true else fi.ex.elem k

def St.get (st : St) (k : Nat) : AC :=
  match look k st.loc with
  | some v => v
  | none => (look k st.env).getD .undef

def St.put (fi : FI) (st : St) (dst : Option Nat) (v : AC) : St :=
  match dst with
  | none => st
  | some k => if fi.isVar k then { st with env := setE k v st.env } else { st with loc := setE k v st.loc }

/-- The slot keeps only a share of what it holds. -/
def St.weak (st : St) (k : Nat) : St :=
  match look k st.loc with
  | some v => { st with loc := setE k (share v) st.loc }
  | none => match look k st.env with
    | some v => { st with env := setE k (share v) st.env }
    | none => st

/-- The slot is known to hold this. -/
def St.setAt (st : St) (k : Nat) (v : AC) : St :=
  match look k st.loc with
  | some _ => { st with loc := setE k v st.loc }
  | none => { st with env := setE k v st.env }

def St.ev (st : St) : Operand → AC
  | .tmp t => st.get t
  | .const v => ofV v
  | .func f => .fn f []
  | .global _ => .undef

/-- What an operand is under a guard. -/
def gOk : Option Bool → Prop
  | none => True
  | some b => b = true

abbrev un (gd : Option Bool) (v : AC) (k : AC → Prop) : Prop :=
  match v with
  | .opt g v => (gOk gd → g = true) ∧ k v
  | .nam _ v => k v
  | v => k v

def getBox (K : List (List (List AC))) (u i : Nat) : Option (List AC) := (K[u]?).bind (·[i]?)
def setBox (K : List (List (List AC))) (u i : Nat) (c : List AC) : List (List (List AC)) :=
  match K[u]? with
  | some f => K.set u (f.set i c)
  | none => K

/-- The value that some cells of a variable of this type are. -/
def mkVal (P : Program) (t : TypeId) (cs : List AC) : AC :=
  match tdOf P t with
  | .struct _ => .agg cs
  | _ => cs.headD .undef

/-- A type whose variables the abstract machine reads and writes. -/
def goodTy (P : Program) (t : TypeId) : Prop :=
  match tdOf P t with
  | .bad => False
  | _ => True

/-- What can be laid into cells. -/
def storable : AC → Bool
  | .undef => false
  | .tup _ => false
  | .opt _ _ => false
  | .nam _ _ => false
  | .als _ _ _ _ => false
  | _ => true

def isUndef : AC → Bool
  | .undef => true
  | .nam _ _ => true
  | .als _ _ _ _ => true
  | _ => false

def cellsOfV : AC → List AC
  | .agg cs => cs
  | v => [v]

def putCells (cs : List AC) (off : Nat) (new : List AC) : List AC := cs.take off ++ new ++ cs.drop (off + new.length)

def isPtr : AC → Bool
  | .ptr .. => true
  | .undef => true
  | _ => false

/-! What an abstract value says of a value in a world: 'L' are the blocks that it alone holds. -/
mutual
inductive Rep (P : Program) (w : World) (Pr : Addr → Prop) : List (List Nat) → AC → Value → List Nat → Prop
  | bool {bl b} : Rep P w Pr bl (.bool b) (.bool b) []
  | int {bl k n} : Rep P w Pr bl (.int k n) (.int k n) []
  | str {bl s b} : b.data.toList = s → s.length ≤ maxLen → Rep P w Pr bl (.str s) (.string b) []
  | slNo {bl n cells vals ad cap} : Reps P w Pr [] cells vals [] → (∀ v ∈ vals, v.oneCell' = true) →
      (∀ j u, vals[j]? = some u → Pr (ad.add j) ∧ w.cell? (ad.add j) = some u) → n ≤ cap → cap ≤ maxLen →
      Rep P w Pr bl (.sl .no n cells) (.slice (some ad) n cap) []
  | slNil {bl o} : Rep P w Pr bl (.sl o 0 []) (.slice none 0 0) []
  | slOf {bl e n cells vals g cap L} {cur : Array Value} : Reps P w Pr [] cells vals L → (∀ v ∈ vals, v.oneCell' = true) →
      w.heap[g]? = some (.cells cur e (0, 0)) → n ≤ cap → cap ≤ maxLen → 0 < P.cellsOf e → cur.size = cap * P.cellsOf e → cur.toList.take (n * P.cellsOf e) = vals →
      (∀ a, Pr a → a.block = g → a.off < n * P.cellsOf e) → (∀ j, j < n * P.cellsOf e → Pr ⟨g, j, none⟩) →
      Rep P w Pr bl (.sl (.of e) n cells) (.slice (some ⟨g, 0, none⟩) n cap) (g :: L)
  | slEx {bl e n cells vals g cap L} {cur : Array Value} : Reps P w Pr [] cells vals L → (∀ v ∈ vals, v.oneCell' = true) →
      w.heap[g]? = some (.cells cur e (0, 0)) → n ≤ cap → cap ≤ maxLen → 0 < P.cellsOf e → cur.size = cap * P.cellsOf e → cur.toList.take (n * P.cellsOf e) = vals →
      (∀ a, Pr a → a.block ≠ g) → Rep P w Pr bl (.sl (.ex e) n cells) (.slice (some ⟨g, 0, none⟩) n cap) (g :: L)
  | nam {bl v x L} : Rep P w Pr bl v x L → Rep P w Pr bl (.nam x v) x L
  | ept {bl t g n cap off} : Rep P w Pr bl (.ept t (.slice (some ⟨g, 0, none⟩) n cap) off) (.pointer (some ⟨g, off, none⟩)) []
  | als {bl t o base n cap} : n ≤ maxLen → ((base = none ∧ n = 0) ∨ ∃ g, base = some ⟨g, 0, none⟩) → Rep P w Pr bl (.als t o (.slice base n cap) (some n)) (.slice base n cap) []
  | alsA {bl t o x} : Rep P w Pr bl (.als t o x none) x []
  | agg {bl cells vals L} : Reps P w Pr bl cells vals L → (∀ v ∈ vals, v.oneCell' = true) → Rep P w Pr bl (.agg cells) (.agg vals.toArray) L
  | tup {bl vs vals L} : Reps P w Pr bl vs vals L → Rep P w Pr bl (.tup vs) (.tuple vals.toArray) L
  | ptr {bl : List (List Nat)} {u i off g} : (bl[u]?).bind (·[i]?) = some g → Rep P w Pr bl (.ptr u i off) (.pointer (some ⟨g, off, none⟩)) []
  | ref {bl cells vals ad} : Reps P w Pr [] cells vals [] → (∀ v ∈ vals, v.oneCell' = true) →
      (∀ j u, vals[j]? = some u → Pr (ad.add j) ∧ w.cell? (ad.add j) = some u) → Rep P w Pr bl (.ref cells) (.pointer (some ad)) []
  | fn {bl f caps vals} : (∀ c ∈ caps, isPtr c = true) → Reps P w Pr bl caps vals [] → Rep P w Pr bl (.fn f caps) (.func (.func f) #[] vals.toArray) []
  | optT {bl v x L} : Rep P w Pr bl v x L → Rep P w Pr bl (.opt true v) x L
  | optF {bl v} : Rep P w Pr bl (.opt false v) Go.undef []
  | undef {bl x} : Rep P w Pr bl .undef x []
inductive Reps (P : Program) (w : World) (Pr : Addr → Prop) : List (List Nat) → List AC → List Value → List Nat → Prop
  | nil {bl} : Reps P w Pr bl [] [] []
  | cons {bl a as v vs L M} : Rep P w Pr bl a v L → Reps P w Pr bl as vs M → Reps P w Pr bl (a :: as) (v :: vs) (L ++ M)
end

/-- Slots. -/
def RepE (P : Program) (w : World) (Pr : Addr → Prop) (bl : List (List Nat)) (tmps : Array Value) : List (Nat × AC) → List Nat → Prop
  | [], L => L = []
  | (k, v) :: r, L => ∃ L1 L2 x, tmps[k]? = some x ∧ Rep P w Pr bl v x L1 ∧ RepE P w Pr bl tmps r L2 ∧ L = L1 ++ L2

/-- The boxes of one frame. -/
def RepF (P : Program) (w : World) (Pr : Addr → Prop) (bl : List (List Nat)) : List (List AC) → List Nat → List Nat → Prop
  | [], gs, L => gs = [] ∧ L = []
  | c :: f, gs, L => ∃ g gs' cur T L1 L2, gs = g :: gs' ∧ w.heap[g]? = some (.cells cur T (0, 0)) ∧ Reps P w Pr bl c cur.toList L1 ∧ (∀ v ∈ cur.toList, v.oneCell' = true) ∧
      (∀ a, Pr a → a.block ≠ g) ∧ RepF P w Pr bl f gs' L2 ∧ L = L1 ++ L2

/-- The boxes of all frames. -/
def RepK (P : Program) (w : World) (Pr : Addr → Prop) : List (List (List AC)) → List (List Nat) → List Nat → Prop
  | [], bl, L => bl = [] ∧ L = []
  | f :: K, bl, L => ∃ b bl' L1 L2, bl = b :: bl' ∧ RepF P w Pr (b :: bl') f b L1 ∧ RepK P w Pr K bl' L2 ∧ L = L1 ++ L2

/-- What has become of the world since w0, if the blocks in F may have been touched. -/
structure Since (w0 : World) (Pr0 : Addr → Prop) (F : List Nat) (w : World) (Pr : Addr → Prop) : Prop where
  os : w.os = w0.os
  tape : w.tape = w0.tape
  output : w.output = w0.output
  size : w0.heap.size ≤ w.heap.size
  block : ∀ b, b < w0.heap.size → b ∉ F → w.heap[b]? = w0.heap[b]?
  prot : ∀ a, Pr0 a → Pr a ∧ w.cell? a = w0.cell? a
  newPr : ∀ a, Pr a → Pr0 a ∨ a.block ∈ F ∨ w0.heap.size ≤ a.block

/-- The boxes of the innermost frame may have become more. -/
def BlExt (n : Nat) (bl bl' : List (List Nat)) : Prop := bl' = bl ∨ ∃ b r gs, bl = b :: r ∧ bl' = (b ++ gs) :: r ∧ ∀ g ∈ gs, n ≤ g

/-- What a law's card says of the library's tables, and the cells that hold some int: promised to stay. -/
def tabs : List (Addr × Value) := ((List.range 256).map fun c => ((⟨0, c, none⟩ : Addr), Value.int .u8 (Lib.firstT c))) ++ ((List.range 16).flatMap fun i => [((⟨1, 2 * i, none⟩ : Addr), Value.int .u8 (Lib.accLo i)), (⟨1, 2 * i + 1, none⟩, .int .u8 (Lib.accHi i))])
def tabInts : List Addr := [⟨2, 0, none⟩]
def Tab (w : World) (Pr : Addr → Prop) : Prop := (∀ x ∈ tabs, Pr x.1 ∧ w.cell? x.1 = some x.2) ∧ ∀ a ∈ tabInts, Pr a ∧ ∃ m, w.cell? a = some (.int .i64 m)
theorem Tab.kept {w w' : World} {Pr Pr' : Addr → Prop} (hp : ∀ a, Pr a → Pr' a ∧ w'.cell? a = w.cell? a) (h : Tab w Pr) : Tab w' Pr' :=
  ⟨fun x hx => ⟨(hp _ (h.1 x hx).1).1, by rw [(hp _ (h.1 x hx).1).2]; exact (h.1 x hx).2⟩,
   fun a ha => ⟨(hp _ (h.2 a ha).1).1, by rw [(hp _ (h.2 a ha).1).2]; exact (h.2 a ha).2⟩⟩

/-- The function f, called with args over the boxes K, returns r and leaves the boxes K'. -/
def Ct (P : Program) (f : FuncId) (args : List AC) (K : List (List (List AC))) (r : AC) (K' : List (List (List AC))) : Prop :=
  (∃ fn, P.funcs[f]? = some fn ∧ fn.body.isSome = true ∧ (fn.name == "runtime.NumGoroutine") = false) ∧ ∀ (w : World) (Pr : Addr → Prop) (bl : List (List Nat)) (vals : List Value) (La Lk : List Nat),
    Reps P w Pr bl args vals La → RepK P w Pr K bl Lk → (∀ x, (La ++ Lk ++ bl.flatten).count x ≤ 1) → (∀ a, Pr a → a.block < w.heap.size) → Tab w Pr →
    Calls P f vals.toArray w fun e w' => ∃ v Pr' Lr Lk' bl', e = .returned v ∧ BlExt w.heap.size bl bl' ∧ Rep P w' Pr' bl' r v Lr ∧ RepK P w' Pr' K' bl' Lk' ∧
      (∀ x, (Lr ++ Lk' ++ bl'.flatten).count x ≤ 1) ∧ (∀ x ∈ Lr ++ Lk', x ∈ La ++ Lk ∨ w.heap.size ≤ x) ∧ (∀ a, Pr' a → a.block < w'.heap.size) ∧
      Since w Pr (La ++ Lk ++ bl.flatten) w' Pr'

/-- The same of a function that may write what its first argument alone holds: that is 'back' afterwards. -/
def CtB (P : Program) (f : FuncId) (args : List AC) (K : List (List (List AC))) (r : AC) (K' : List (List (List AC))) (back : AC) : Prop :=
  (∃ fn, P.funcs[f]? = some fn ∧ fn.body.isSome = true ∧ (fn.name == "runtime.NumGoroutine") = false) ∧ ∀ (w : World) (Pr : Addr → Prop) (bl : List (List Nat)) (v0 : Value) (vals : List Value) (La Lk : List Nat),
    Reps P w Pr bl args (v0 :: vals) La → RepK P w Pr K bl Lk → (∀ x, (La ++ Lk ++ bl.flatten).count x ≤ 1) → (∀ a, Pr a → a.block < w.heap.size) → Tab w Pr →
    Calls P f (v0 :: vals).toArray w fun e w' => ∃ v Pr' Lr Lb Lk' bl', e = .returned v ∧ BlExt w.heap.size bl bl' ∧ Rep P w' Pr' bl' r v Lr ∧ Rep P w' Pr' bl' back v0 Lb ∧ RepK P w' Pr' K' bl' Lk' ∧
      (∀ x, (Lr ++ Lb ++ Lk' ++ bl'.flatten).count x ≤ 1) ∧ (∀ x ∈ Lr ++ Lb ++ Lk', x ∈ La ++ Lk ∨ w.heap.size ≤ x) ∧ (∀ a, Pr' a → a.block < w'.heap.size) ∧
      Since w Pr (La ++ Lk ++ bl.flatten) w' Pr'

/-! The weakest precondition. -/
def FI.keeps (fi : FI) : Option Nat → Bool
  | some d => fi.kp.elem d
  | none => false
def FI.takes (fi : FI) : Option Nat → Bool
  | some d => fi.tk.elem d
  | none => false

/-- An operand that is used up. -/
abbrev wT (fi : FI) (m : Bool) (gd : Option Bool) (st : St) (x : Operand) (k : AC → St → Prop) : Prop :=
  match x with
  | .tmp t => un gd (st.get t) fun v => if m && fi.tk.elem t then k v (st.weak t) else k (share v) st
  | x => k (st.ev x) st

def wTs (fi : FI) (m : Bool) (gd : Option Bool) : List Operand → St → (List AC → St → Prop) → Prop
  | [], st, k => k [] st
  | x :: xs, st, k => wT fi m gd st x fun v st => wTs fi m gd xs st fun vs st => k (v :: vs) st

def zeroOf (P : Program) (t : TypeId) : Option (List AC) := ((P.info? t).bind (·.zero)).map fun z => z.cells.toList.map ofV

def fillC (place : Nat → Option (Nat × Nat)) (cells : List AC) : List (Nat × AC) → Option (List AC)
  | [] => some cells
  | (i, v) :: rest =>
    match place i with
    | none => none
    | some (off, size) => if storable v = false ∨ (cellsOfV v).length ≠ size ∨ cells.length < off + size then none else fillC place (putCells cells off (cellsOfV v)) rest

def bitsOp (op : BinOp) (k : IntKind) (x y : Int) : Int :=
  let a := BitVec.ofInt k.bits x
  let b := BitVec.ofInt k.bits y
  match op with
  | .and => k.wrap (a &&& b).toNat
  | .or => k.wrap (a ||| b).toNat
  | .xor => k.wrap (a ^^^ b).toNat
  | _ => k.wrap (a &&& ~~~b).toNat

def intBin (gd : Option Bool) (op : BinOp) (kd kd' : IntKind) (a b : Int) (k : AC → Prop) : Prop :=
  match op with
  | .shl => (gOk gd → 0 ≤ b) ∧ k (.int kd (kd.wrap (a * 2 ^ (min b.toNat kd.bits))))
  | .shr => (gOk gd → 0 ≤ b) ∧ k (.int kd (a.fdiv (2 ^ (min b.toNat kd.bits))))
  | .add => kd = kd' ∧ k (.int kd (kd.wrap (a + b)))
  | .sub => kd = kd' ∧ k (.int kd (kd.wrap (a - b)))
  | .mul => kd = kd' ∧ k (.int kd (kd.wrap (a * b)))
  | .quo => kd = kd' ∧ (gOk gd → b ≠ 0) ∧ k (.int kd (kd.wrap (a.tdiv b)))
  | .rem => kd = kd' ∧ (gOk gd → b ≠ 0) ∧ k (.int kd (a.tmod b))
  | .and => kd = kd' ∧ k (.int kd (bitsOp .and kd a b))
  | .or => kd = kd' ∧ k (.int kd (bitsOp .or kd a b))
  | .xor => kd = kd' ∧ k (.int kd (bitsOp .xor kd a b))
  | .andNot => kd = kd' ∧ k (.int kd (bitsOp .andNot kd a b))
  | .eql => kd = kd' ∧ k (.bool (decide (a = b)))
  | .neq => kd = kd' ∧ k (.bool (!decide (a = b)))
  | .lss => kd = kd' ∧ k (.bool (decide (a < b)))
  | .leq => kd = kd' ∧ k (.bool (decide (a ≤ b)))
  | .gtr => kd = kd' ∧ k (.bool (decide (a > b)))
  | .geq => kd = kd' ∧ k (.bool (decide (a ≥ b)))

def strBin (gd : Option Bool) (op : BinOp) (a b : List UInt8) (k : AC → Prop) : Prop :=
  match op with
  | .add => (gOk gd → a.length + b.length ≤ maxLen) ∧ k (.str (a ++ b))
  | .eql => k (.bool (decide (a = b)))
  | .neq => k (.bool (!decide (a = b)))
  | .lss => k (.bool (Op.bytesLess a b))
  | .leq => k (.bool (Op.bytesLess a b || decide (a = b)))
  | .gtr => k (.bool (!(Op.bytesLess a b || decide (a = b))))
  | .geq => k (.bool (!Op.bytesLess a b))
  | _ => False

def eqCells : List AC → List AC → Option Bool
  | [], [] => some true
  | .bool a :: r, .bool b :: s => (eqCells r s).map (decide (a = b) && ·)
  | .int j a :: r, .int k b :: s => if j = k then (eqCells r s).map (decide (a = b) && ·) else none
  | .str a :: r, .str b :: s => (eqCells r s).map (decide (a = b) && ·)
  | _, _ => none

def wBin (P : Program) (gd : Option Bool) (op : BinOp) (t : TypeId) (x y : AC) (k : AC → Prop) : Prop :=
  match x, y with
  | .int j a, .int j' b => intBin gd op j j' a b k
  | .str a, .str b => strBin gd op a b k
  | .bool a, .bool b => match op, tdOf P t with
    | .eql, .bool => k (.bool (decide (a = b)))
    | .neq, .bool => k (.bool (!decide (a = b)))
    | _, _ => False
  | .undef, _ => ¬ gOk gd ∧ k .undef
  | _, .undef => ¬ gOk gd ∧ k .undef
  | _, _ => False

def bytesOf : List AC → Option (List UInt8)
  | [] => some []
  | .int .u8 n :: r => (bytesOf r).map (UInt8.ofNat n.toNat :: ·)
  | _ :: _ => none

def wConv (P : Program) (src dst : TypeId) (x : AC) (k : AC → Prop) : Prop :=
  match tdOf P src, tdOf P dst, x with
  | .int _, .int j, .int _ n => k (.int j (j.wrap n))
  | .str, .str, .str s => k (.str s)
  | .slice e, .str, .sl _ n cells => match bytesOf cells, tdOf P e with
    | some bs, .int .u8 => bs.length = n ∧ bs.length ≤ maxLen ∧ k (.str bs)
    | _, _ => False
  | _, _, _ => False

def pickV (c : Bool) : AC → AC → AC
  | .bool x, .bool y => .bool (if c then x else y)
  | .int j x, .int j' y => if j = j' then .int j (if c then x else y) else (if c then .int j x else .int j' y)
  | .str x, .str y => .str (if c then x else y)
  | x, y => if c then x else y

def optInt (gd : Option Bool) (st : St) (d : Int) : Option Operand → (Int → Prop) → Prop
  | none, k => k d
  | some x, k => un gd (st.ev x) fun v => match v with
    | .int _ n => k n
    | _ => False

/-- A function's call. -/
def callK (P : Program) (m : Bool) (gd : Option Bool) (f : FuncId) (args : List AC) (k : AC → St → Prop) (st : St) : Prop :=
  if m then ∃ r K', Ct P f args st.K r K' ∧ k r { st with K := K' }
  else ∃ r, (gOk gd → Ct P f args st.K r st.K) ∧ k r st

abbrev wLen (gd : Option Bool) (t : TD) (v : AC) (k : AC → Prop) : Prop :=
  match t, v with
  | .str, .str s => (gOk gd → s.length ≤ maxLen) → k (.int .i64 s.length)
  | .slice _, .sl _ n _ => (gOk gd → n ≤ maxLen) → k (.int .i64 n)
  | .slice _, .als _ _ _ (some n) => (gOk gd → n ≤ maxLen) → k (.int .i64 n)
  | _, _ => False

/-- What may be written in it. -/
def cellX : AC → Bool
  | .sl (.ex _) _ _ => true
  | .nam _ _ => true
  | _ => false
def isX : AC → Bool
  | .sl (.ex _) _ _ => true
  | .agg cs => cs.any cellX
  | _ => false

/-- A slot that alone holds something is named. -/
def nameE : List (Nat × AC) → (List (Nat × AC) → Prop) → Prop
  | [], k => k []
  | (j, v) :: r, k => if isX v then ∀ y : Value, nameE r fun r' => k ((j, .nam y v) :: r') else nameE r fun r' => k ((j, v) :: r')

/-- What needs no promise of the world. -/
def scalar : AC → Bool
  | .bool _ => true
  | .int _ _ => true
  | .str _ => true
  | _ => false
def unN : AC → AC
  | .nam _ v => v
  | v => v
/-- What is left of a value while all is lent: a pointer to a box points to cells that nobody writes. -/
def lendV (K : List (List (List AC))) (v : AC) : AC :=
  match unN v with
  | .ptr u i 0 => match getBox K u i with
    | some cells => if cells.all flat then .ref (lendL cells) else .undef
    | none => .undef
  | .agg cs => if cs.all flat then .agg (lendL cs) else .undef
  | v => if flat v then lendS v else .undef
/-- What slots hold, to be looked at: each under its name. -/
def nameX (K : List (List (List AC))) : List (Nat × AC) → (List (Nat × AC) → Prop) → Prop
  | [], k => k []
  | (j, v) :: r, k => if scalar v then nameX K r fun r' => k ((j, v) :: r') else ∀ y : Value, nameX K r fun r' => k ((j, .nam y (lendV K v)) :: r')
/-- What still bears its name is what it was; all else is closed. -/
def backE (env0 env1 : List (Nat × AC)) : List (Nat × AC) → (List (Nat × AC) → Prop) → Prop
  | [], k => k []
  | (j, v) :: r, k => match v with
    | .nam y _ => match look j env1, look j env0 with
      | some (.nam y' _), some u => y' = y ∧ backE env0 env1 r fun r' => k ((j, u) :: r')
      | _, _ => False
    | v => closed v = true ∧ backE env0 env1 r fun r' => k ((j, toEx v) :: r')

/-- The slots' share of cells. -/
def shareO : Ow → List AC → List AC
  | .no, cs => cs
  | _, cs => shareL cs

/-- A copy of what a slot holds under a name. -/
def lenOf : AC → Option Nat
  | .sl _ n _ => some n
  | _ => none

/-- Operands that are looked at. -/
def wXs (gd : Option Bool) (st : St) : List Operand → (List AC → Prop) → Prop
  | [], k => k []
  | x :: xs, k => un gd (st.ev x) fun v => wXs gd st xs fun vs => k (share v :: vs)

/-- What an operand's name stands for, what may stand there, and the state with something else under it. -/
abbrev wBorrow (st : St) (x : Operand) (k : AC → (AC → Bool) → (AC → St) → Prop) : Prop :=
  match x with
  | .tmp s => match st.get s with
    | .als s' none y _ => match st.get s' with
      | .nam y' v => y' = y ∧ k v (fun _ => true) (fun u => st.setAt s' (.nam y u))
      | _ => False
    | .als s' (some o) y _ => match st.get s' with
      | .nam y' (.sl (.ex e) n cs) => match cs[o]? with
        | some (.nam z v) => z = y ∧ k v flat (fun u => st.setAt s' (.nam y' (.sl (.ex e) n (cs.set o u))))
        | _ => False
      | .nam y' (.agg cs) => match cs[o]? with
        | some (.nam z v) => z = y ∧ k v (fun _ => true) (fun u => st.setAt s' (.nam y' (.agg (cs.set o u))))
        | _ => False
      | _ => False
    | .nam y v => k v (fun _ => true) (fun u => st.setAt s (.nam y u))
    | _ => False
  | _ => False

/-- A call that writes what its first argument alone holds. -/
def callB (P : Program) (gd : Option Bool) (f : FuncId) (args : List Operand) (k : AC → St → Prop) (st : St) : Prop :=
  match args with
  | x :: xs => wBorrow st x fun v ok put => wXs gd st xs fun vs => ∃ r K' back, CtB P f (v :: vs) st.K r K' back ∧ ok back = true ∧ k r { put back with K := K' }
  | [] => False

def zeroLen (P : Program) (e : TypeId) : Prop :=
  match zeroOf P e with
  | some zs => zs.length = P.cellsOf e
  | none => False

/-- Who holds what was appended to. -/
def appOw (keep : Bool) (e : TypeId) : Ow → Option Ow
  | .nil => some (if keep then .ex e else .of e)
  | .of e' => if e' = e then some (.of e) else none
  | .ex e' => if e' = e then some (.ex e) else none
  | .no => none

abbrev wAppend (P : Program) (keep : Bool) (t : TD) (s v : AC) (k : AC → Prop) : Prop :=
  match t, s, v with
  | .slice e, .sl o n cells, .sl _ c new => match appOw keep e o with
    | some o' => 0 < P.cellsOf e ∧ zeroLen P e ∧ n + c ≤ maxLen ∧ (n + c) * P.bytesOf e ≤ 140737488355328 ∧
      new.length = c * P.cellsOf e ∧ k (.sl o' (n + c) (cells ++ new))
    | none => False
  | .slice e, .nam _ (.sl o n cells), .sl _ c new => match appOw keep e o with
    | some o' => 0 < P.cellsOf e ∧ zeroLen P e ∧ n + c ≤ maxLen ∧ (n + c) * P.bytesOf e ≤ 140737488355328 ∧
      new.length = c * P.cellsOf e ∧ k (.sl o' (n + c) (cells ++ new))
    | none => False
  | _, _, _ => False

/-- A text's bytes, as cells. -/
def byteCells (s : List UInt8) : List AC := s.map fun b => .int .u8 b.toNat
abbrev wAppendS (P : Program) (keep : Bool) (t : TD) (s v : AC) (k : AC → Prop) : Prop :=
  match t, s, v with
  | .slice e, .sl o n cells, .str ss => match appOw keep e o with
    | some o' => P.cellsOf e = 1 ∧ zeroLen P e ∧ n + ss.length ≤ maxLen ∧ (n + ss.length) * P.bytesOf e ≤ 140737488355328 ∧ k (.sl o' (n + ss.length) (cells ++ byteCells ss))
    | none => False
  | _, _, _ => False

abbrev wBuiltin (P : Program) (fi : FI) (m keep : Bool) (gd : Option Bool) (b : Builtin) (args : List Operand) (ts : List TypeId) (st : St) (k : AC → St → Prop) : Prop :=
  match b, args, ts with
  | .len, [x], t :: _ => un gd (st.ev x) fun v => wLen gd (tdOf P t) v fun v => k v st
  | .append, [.tmp s, x], [t, t'] => m = true ∧ match tdOf P t' with
    | .str => wT fi m gd (st.weak s) x fun v st' => wAppendS P keep (tdOf P t) (st.get s) v fun v => k v st'
    | _ => t = t' ∧ wT fi m gd (st.weak s) x fun v st' => wAppend P keep (tdOf P t) (st.get s) v fun v => k v st'
  | _, _, _ => False

abbrev wCall (P : Program) (fi : FI) (m keep : Bool) (gd : Option Bool) (c : Call) (st : St) (k : AC → St → Prop) : Prop :=
  match c.callee with
  | .value f => un gd (st.ev f) fun f => match f with
    | .fn f caps => if m && fi.bw.elem f then caps = [] ∧ callB P gd f c.args.toList k st
      else wTs fi m gd c.args.toList st fun vs st => callK P m gd f (vs ++ caps) k st
    | _ => False
  | .builtin b => wBuiltin P fi m keep gd b c.args.toList c.argTypes.toList st k
  | .invoke _ _ => False

abbrev wD_move (P : Program) (fi : FI) (m : Bool) (gd : Option Bool) (dst0 : Option Nat) (x : Operand) (st : St) (k : AC → St → Prop) : Prop :=
  match x with
    | .tmp t => if m && fi.takes dst0 then un gd (st.get t) fun v => k v (st.weak t) else match st.get t with
      | .nam y v => if isX v then k (.als t none y (lenOf v)) st else k (share v) st
      | v => un gd v fun v => k (share v) st
    | x => k (st.ev x) st

abbrev wD_assign (P : Program) (fi : FI) (m : Bool) (gd : Option Bool) (dst0 : Option Nat) (x : Operand) (st : St) (k : AC → St → Prop) : Prop :=
  wT fi m gd st x k

abbrev wD_pick (P : Program) (fi : FI) (m : Bool) (gd : Option Bool) (dst0 : Option Nat) (c a b : Operand) (st : St) (k : AC → St → Prop) : Prop :=
  un gd (st.ev c) fun c => match c with
    | .bool c => un (some ((gd.getD true) && c)) (st.ev a) fun a => un (some ((gd.getD true) && !c)) (st.ev b) fun b => k (share (pickV c a b)) st
    | .undef => ¬ gOk gd ∧ k .undef st
    | _ => False

/-- A type's zero is of cells that are one value each. -/
def zeroOk (P : Program) (t : TypeId) : Bool := match (P.info? t).bind (·.zero) with
  | some z => z.cells.toList.all Value.oneCell'
  | none => false
abbrev wD_alloc (P : Program) (fi : FI) (m : Bool) (gd : Option Bool) (dst0 : Option Nat) (t : TypeId) (st : St) (k : AC → St → Prop) : Prop :=
  m = true ∧ match zeroOf P t, st.K with
    | some cs, f :: K => zeroOk P t = true ∧ k (.ptr 0 f.length 0) { st with K := (f ++ [cs]) :: K }
    | _, _ => False

abbrev wD_box (P : Program) (fi : FI) (m : Bool) (gd : Option Bool) (dst0 : Option Nat) (t : TypeId) (x : Operand) (st : St) (k : AC → St → Prop) : Prop :=
  m = true ∧ wT fi m gd st x fun v st => match v, st.K with
    | .tup _, _ => False
    | .opt _ _, _ => False
    | v, f :: K => isUndef v = false ∧ k (.ptr 0 f.length 0) { st with K := (f ++ [cellsOfV v]) :: K }
    | _, [] => False

abbrev wD_build (P : Program) (fi : FI) (m : Bool) (gd : Option Bool) (dst0 : Option Nat) (t : TypeId) (parts : Array (Nat × Operand)) (st : St) (k : AC → St → Prop) : Prop :=
  wTs fi m gd (parts.toList.map (·.2)) st fun vs st => match tdOf P t, zeroOf P t with
    | .struct fs, some zs => (fs.all fun f => decide (0 < f.2.1)) = true ∧ (zs.all storable) = true ∧ match fillC (fun i => (fs[i]?).map fun f => (f.1, f.2.1)) zs ((parts.toList.map (·.1)).zip vs) with
      | some cs => k (.agg cs) st
      | none => False
    | _, _ => False

abbrev wD_buildSlice (P : Program) (fi : FI) (m : Bool) (gd : Option Bool) (dst0 : Option Nat) (t : TypeId) (len : Nat) (parts : Array (Nat × Operand)) (st : St) (k : AC → St → Prop) : Prop :=
  wTs fi m gd (parts.toList.map (·.2)) st fun vs st => match tdOf P t with
    | .slice e => 0 < P.cellsOf e ∧ len * P.cellsOf e ≤ 16777216 ∧ match zeroOf P e with
      | some zs => (zs.all storable) = true ∧ zs.length = P.cellsOf e ∧ match fillC (fun i => some (i * P.cellsOf e, P.cellsOf e)) (List.replicate len zs).flatten ((parts.toList.map (·.1)).zip vs) with
        | some cs => (cs.all flat) = true ∧ k (.sl (if fi.keeps dst0 then .ex e else .of e) len cs) st
        | none => False
      | none => False
    | _ => False

/-- A box's slice is taken under a name, or what was so taken is given back. -/
abbrev wKeep (P : Program) (dst0 : Option Nat) (t : TypeId) (st : St) (u i off : Nat) (cells : List AC) (k : AC → St → Prop) : Prop :=
  match tdOf P t, dst0, cells[off]? with
  | .slice _, some d, some (.sl (.ex e) n cs) => P.cellsOf t = 1 ∧ ∀ z : Value, k (.nam z (.sl (.ex e) n cs)) { st with K := setBox st.K u i (cells.set off (.als d none z none)) }
  | .slice _, some _, some (.als s none y _) => P.cellsOf t = 1 ∧ match st.get s with
    | .nam y' v => y' = y ∧ k v (st.weak s)
    | _ => False
  | _, _, _ => False

abbrev wD_load (P : Program) (fi : FI) (m : Bool) (gd : Option Bool) (dst0 : Option Nat) (t : TypeId) (x : Operand) (st : St) (k : AC → St → Prop) : Prop :=
  0 < P.cellsOf t ∧ goodTy P t ∧ un gd (st.ev x) fun p => match p with
    | .ptr u i off => match getBox st.K u i with
      | some cells => off + P.cellsOf t ≤ cells.length ∧
        (if m && fi.es && fi.keeps dst0 then wKeep P dst0 t st u i off cells k
         else if m && fi.takes dst0 then k (mkVal P t (((cells.drop off).take (P.cellsOf t)).map (mapC (liftP u)))) { st with K := setBox st.K u i (putCells cells off (shareL ((cells.drop off).take (P.cellsOf t)))) }
         else k (share (mkVal P t (((cells.drop off).take (P.cellsOf t)).map (mapC (liftP u))))) st)
      | none => False
    | .ref cells => (gOk gd → P.cellsOf t ≤ cells.length) ∧ k (mkVal P t (cells.take (P.cellsOf t))) st
    | .ept s y off => fi.es = true ∧ match st.get s with
      | .nam y' (.sl (.ex e) n cells) => y' = y ∧ off + P.cellsOf t ≤ cells.length ∧ match tdOf P t, cells[off]? with
        | .slice _, some (.sl (.ex e2) n2 cs2) => m = true ∧ P.cellsOf t = 1 ∧ ∀ z : Value, k (.als s (some off) z (some n2)) (st.setAt s (.nam y (.sl (.ex e) n (cells.set off (.nam z (.sl (.ex e2) n2 cs2))))))
        | _, _ => k (share (mkVal P t ((cells.drop off).take (P.cellsOf t)))) st
      | _ => False
    | _ => False

abbrev wD_store (P : Program) (fi : FI) (m : Bool) (gd : Option Bool) (dst0 : Option Nat) (t : TypeId) (a x : Operand) (st : St) (k : AC → St → Prop) : Prop :=
  m = true ∧ 0 < P.cellsOf t ∧ goodTy P t ∧ un gd (st.ev a) fun p => wT fi m gd st x fun v st => match p with
    | .ptr u i off => match getBox st.K u i with
      | some cells => off + P.cellsOf t ≤ cells.length ∧ isUndef v = false ∧ (cellsOfV v).length = P.cellsOf t ∧ match (cellsOfV v).mapM (lowC u) with
        | some new => k .undef { st with K := setBox st.K u i (putCells cells off new) }
        | none => False
      | none => False
    | .ept s y off => fi.es = true ∧ match st.get s with
      | .nam y' (.sl (.ex e) n cells) => y' = y ∧ off + P.cellsOf t ≤ cells.length ∧ isUndef v = false ∧ (cellsOfV v).length = P.cellsOf t ∧ ((cellsOfV v).all flat) = true ∧
        k .undef (st.setAt s (.nam y (.sl (.ex e) n (putCells cells off (cellsOfV v)))))
      | _ => False
    | _ => False

abbrev wD_nilCheck (P : Program) (fi : FI) (m : Bool) (gd : Option Bool) (dst0 : Option Nat) (x : Operand) (st : St) (k : AC → St → Prop) : Prop :=
  un gd (st.ev x) fun v => match v with
    | .ptr u i off => k (.ptr u i off) st
    | .ref cells => k (.ref cells) st
    | .ept s y off => k (.ept s y off) st
    | _ => False

/-- The literal nil of slices. -/
def isNilC : Operand → Bool
  | .const (.slice none 0 0) => true
  | _ => false
/-- A slice beside nil: one without elements may be nil, or not. -/
def nilCmp (op : BinOp) (td : TD) (a : AC) (k : AC → Prop) : Prop :=
  match op, td, a with
  | .eql, .slice _, .sl o n _ => o.isEx = false ∧ ∀ b : Bool, (b = true → n = 0) → k (.bool b)
  | .neq, .slice _, .sl o n _ => o.isEx = false ∧ ∀ b : Bool, (b = false → n = 0) → k (.bool b)
  | _, _, _ => False
abbrev wD_binOp (P : Program) (fi : FI) (m : Bool) (gd : Option Bool) (dst0 : Option Nat) (op : BinOp) (t : TypeId) (x y : Operand) (t' : TypeId) (st : St) (k : AC → St → Prop) : Prop :=
  if isNilC y then un gd (st.ev x) fun a => nilCmp op (tdOf P t) a fun v => k v st
  else un gd (st.ev x) fun a => un gd (st.ev y) fun b => wBin P gd op t a b fun v => k v st

abbrev wD_unOp (P : Program) (fi : FI) (m : Bool) (gd : Option Bool) (dst0 : Option Nat) (op : UnOp) (t : TypeId) (x : Operand) (st : St) (k : AC → St → Prop) : Prop :=
  un gd (st.ev x) fun v => match op, v with
    | .not, .bool b => k (.bool !b) st
    | .neg, .int j n => k (.int j (j.wrap (0 - n))) st
    | _, _ => False

abbrev wD_convert (P : Program) (fi : FI) (m : Bool) (gd : Option Bool) (dst0 : Option Nat) (src dst : TypeId) (x : Operand) (st : St) (k : AC → St → Prop) : Prop :=
  un gd (st.ev x) fun v => wConv P src dst v fun v => k v st

abbrev wD_makeFunc (P : Program) (fi : FI) (m : Bool) (gd : Option Bool) (dst0 : Option Nat) (f : FuncId) (first captured : Array Operand) (st : St) (k : AC → St → Prop) : Prop :=
  first = #[] ∧ (captured.toList.map st.ev).all isPtr = true ∧ k (.fn f (captured.toList.map st.ev)) st

abbrev wD_makeSlice (P : Program) (fi : FI) (m : Bool) (gd : Option Bool) (dst0 : Option Nat) (t : TypeId) (len cap : Operand) (st : St) (k : AC → St → Prop) : Prop :=
  un gd (st.ev len) fun n => un gd (st.ev cap) fun c => match n, c, tdOf P t with
    | .int _ n, .int _ c, .slice e => (gOk gd → 0 ≤ n ∧ n = c ∧ n ≤ maxLen ∧ P.bytesOf e * n ≤ 281474976710656) ∧ 0 < P.cellsOf e ∧ match zeroOf P e with
      | some zs => (zs.all storable) = true ∧ (zs.all flat) = true ∧ zs.length = P.cellsOf e ∧ k (.sl (if fi.keeps dst0 then .ex e else .of e) n.toNat (List.replicate n.toNat zs).flatten) st
      | none => False
    | _, _, _ => False

abbrev wD_slice (P : Program) (fi : FI) (m : Bool) (gd : Option Bool) (dst0 : Option Nat) (t : TypeId) (x : Operand) (lo hi mx : Option Operand) (st : St) (k : AC → St → Prop) : Prop :=
  mx = none ∧ un gd (st.ev x) fun v => match tdOf P t, v with
    | .str, .str s => optInt gd st 0 lo fun l => optInt gd st s.length hi fun h => (gOk gd → 0 ≤ l ∧ l ≤ h ∧ h ≤ s.length) ∧ k (.str ((s.take h.toNat).drop l.toNat)) st
    | .slice e, .sl o n cells => optInt gd st 0 lo fun l => optInt gd st n hi fun h => o.isEx = false ∧ (gOk gd → 0 < P.cellsOf e ∧ 0 ≤ l ∧ l ≤ h ∧ h ≤ n) ∧
        k (.sl .no (h.toNat - l.toNat) (shareO o ((cells.take (h.toNat * P.cellsOf e)).drop (l.toNat * P.cellsOf e)))) st
    | _, _ => False

abbrev wD_fieldAddr (P : Program) (fi : FI) (m : Bool) (gd : Option Bool) (dst0 : Option Nat) (s : TypeId) (x : Operand) (f : Nat) (st : St) (k : AC → St → Prop) : Prop :=
  match tdOf P s with
    | .struct fs => match fs[f]? with
      | some (off, sz, _) => 0 < sz ∧ un gd (st.ev x) fun p => match p with
        | .ptr u i o => k (.ptr u i (o + off)) st
        | .ref cells => (gOk gd → off + sz ≤ cells.length) ∧ k (.ref ((cells.drop off).take sz)) st
        | .ept s y o => k (.ept s y (o + off)) st
        | _ => False
      | none => False
    | _ => False

abbrev wD_field (P : Program) (fi : FI) (m : Bool) (gd : Option Bool) (dst0 : Option Nat) (s : TypeId) (x : Operand) (f : Nat) (st : St) (k : AC → St → Prop) : Prop :=
  match tdOf P s with
    | .struct fs => match fs[f]? with
      | some (off, sz, t) => 0 < sz ∧ sz = P.cellsOf t ∧ goodTy P t ∧ un gd (st.ev x) fun v => match v with
        | .agg cells => off + sz ≤ cells.length ∧ k (share (mkVal P t ((cells.drop off).take sz))) st
        | .als s none y _ => fi.es = true ∧ m = true ∧ match st.get s with
          | .nam y' (.agg cells) => y' = y ∧ match tdOf P t, cells[off]? with
            | .slice _, some (.sl (.ex e2) n2 cs2) => sz = 1 ∧ ∀ z : Value, k (.als s (some off) z (some n2)) (st.setAt s (.nam y (.agg (cells.set off (.nam z (.sl (.ex e2) n2 cs2))))))
            | _, _ => False
          | _ => False
        | _ => False
      | none => False
    | _ => False

abbrev wD_indexAddr (P : Program) (fi : FI) (m : Bool) (gd : Option Bool) (dst0 : Option Nat) (t : TypeId) (x ix : Operand) (st : St) (k : AC → St → Prop) : Prop :=
  un gd (st.ev x) fun v => un gd (st.ev ix) fun i => match tdOf P t, v, i with
    | .slice e, .sl o n cells, .int _ i => o.isEx = false ∧ (gOk gd → 0 ≤ i ∧ i < n) ∧ 0 < P.cellsOf e ∧ cells.length = n * P.cellsOf e ∧
        k (.ref (shareO o ((cells.drop (i.toNat * P.cellsOf e)).take (P.cellsOf e)))) st
    | .slice e, .als s none y (some n), .int _ i => (gOk gd → 0 ≤ i ∧ i < n) ∧ 0 < P.cellsOf e ∧ k (.ept s y (i.toNat * P.cellsOf e)) st
    | _, _, _ => False

abbrev wD_index (P : Program) (fi : FI) (m : Bool) (gd : Option Bool) (dst0 : Option Nat) (t : TypeId) (x ix : Operand) (st : St) (k : AC → St → Prop) : Prop :=
  un gd (st.ev x) fun v => un gd (st.ev ix) fun i => match tdOf P t, v, i with
    | .str, .str s, .int _ i => (gOk gd → 0 ≤ i ∧ i < s.length) ∧ k (.int .u8 (s.getD i.toNat 0).toNat) st
    | _, _, _ => False

abbrev wD_extract (P : Program) (fi : FI) (m : Bool) (gd : Option Bool) (dst0 : Option Nat) (x : Operand) (i : Nat) (st : St) (k : AC → St → Prop) : Prop :=
  un gd (st.ev x) fun v => match v with
    | .tup vs => match vs[i]? with
      | some v => if m && fi.takes dst0 then match x with
          | .tmp s => k v (st.setAt s (.tup (vs.set i .undef)))
          | _ => False
        else k (share v) st
      | none => False
    | _ => False

abbrev wD_call (P : Program) (fi : FI) (m : Bool) (gd : Option Bool) (dst0 : Option Nat) (c : Call) (st : St) (k : AC → St → Prop) : Prop :=
  wCall P fi m (fi.keeps dst0) gd c st k

/-- One operation: the value that it yields, the state behind it. m: may it change boxes and owners? -/
def wDo (P : Program) (fi : FI) (m : Bool) (gd : Option Bool) (dst : Option Nat) (op : Go.Op) (st : St) (k : AC → St → Prop) : Prop :=
  match op with
  | .move x => wD_move P fi m gd dst x st k
  | .assign x => wD_assign P fi m gd dst x st k
  | .pick c a b => wD_pick P fi m gd dst c a b st k
  | .alloc t => wD_alloc P fi m gd dst t st k
  | .box t x => wD_box P fi m gd dst t x st k
  | .build t parts => wD_build P fi m gd dst t parts st k
  | .buildSlice t len parts => wD_buildSlice P fi m gd dst t len parts st k
  | .load t x => wD_load P fi m gd dst t x st k
  | .store t a x => wD_store P fi m gd dst t a x st k
  | .nilCheck x => wD_nilCheck P fi m gd dst x st k
  | .binOp op t x y t' => wD_binOp P fi m gd dst op t x y t' st k
  | .unOp op t x => wD_unOp P fi m gd dst op t x st k
  | .convert src tgt x => wD_convert P fi m gd dst src tgt x st k
  | .makeFunc (.func f) first captured => wD_makeFunc P fi m gd dst f first captured st k
  | .makeSlice t len cap => wD_makeSlice P fi m gd dst t len cap st k
  | .slice t x lo hi mx => wD_slice P fi m gd dst t x lo hi mx st k
  | .fieldAddr s x f => wD_fieldAddr P fi m gd dst s x f st k
  | .field s x f => wD_field P fi m gd dst s x f st k
  | .indexAddr t x ix => wD_indexAddr P fi m gd dst t x ix st k
  | .index t x ix => wD_index P fi m gd dst t x ix st k
  | .extract x i => wD_extract P fi m gd dst x i st k
  | .call c => wD_call P fi m gd dst c st k
  | _ => False

/-- The value that decides a guard. -/
def gVal (st : St) (ops : List Oper) (g : Nat) (want : Bool) : Option Bool :=
  match (ops[g]?).bind (·.dst) with
  | none => none
  | some d => match st.get d with
    | .bool b => some (b == want)
    | .opt g (.bool b) => some (g && (b == want))
    | .opt false .undef => some false
    | _ => none

abbrev putK (fi : FI) (dst : Option Nat) (k : St → Prop) (v : AC) (st : St) : Prop := k (st.put fi dst v)
abbrev optK (fi : FI) (dst : Option Nat) (b : Bool) (k : St → Prop) (v : AC) (st : St) : Prop := k (st.put fi dst (.opt b v))

def wOp (P : Program) (fi : FI) (m : Bool) (ops : List Oper) (o : Oper) (k : St → Prop) (st : St) : Prop :=
  match o.guard with
  | none => wDo P fi m none o.dst o.op st (putK fi o.dst k)
  | some (g, want) => match gVal st ops g want with
    | some b => wDo P fi false (some b) o.dst o.op st (optK fi o.dst b k)
    | none => False

def wOps (P : Program) (fi : FI) (m : Bool) (ops : List Oper) : List Oper → (St → Prop) → St → Prop
  | [], k, st => k st
  | o :: rest, k, st => wOp P fi m ops o (wOps P fi m ops rest k) st

/-- No pointers to boxes of the innermost frame from the n-th on. -/
def killP (n : Nat) : AC → AC
  | .ptr u i o => if u = 0 ∧ n ≤ i then .undef else .ptr u i o
  | v => v

def St.trunc (n : Nat) (st : St) : St :=
  { env := st.env.map fun x => (x.1, mapV (killP n) x.2), loc := [], K := match st.K with
    | f :: K => ((f.take n).map fun c => c.map (mapC (killP n))) :: K
    | [] => [] }

/-- b says no more than a. -/
inductive AC.le : AC → AC → Prop
  | refl {a} : AC.le a a
  | undef {a} : AC.le a .undef
  | share {a} : AC.le a (share a)
  | nil {o} : AC.le (.sl .nil 0 []) (.sl o 0 [])
  | sl {o n cs ds} : cs.length = ds.length → (∀ (i : Nat) (h : i < cs.length) (h' : i < ds.length), AC.le cs[i] ds[i]) → AC.le (.sl o n cs) (.sl o n ds)
  | agg {cs ds} : cs.length = ds.length → (∀ (i : Nat) (h : i < cs.length) (h' : i < ds.length), AC.le cs[i] ds[i]) → AC.le (.agg cs) (.agg ds)
  | tup {cs ds} : cs.length = ds.length → (∀ (i : Nat) (h : i < cs.length) (h' : i < ds.length), AC.le cs[i] ds[i]) → AC.le (.tup cs) (.tup ds)
  | unx {a} : AC.le a (unx a)
  | nam {y a b} : AC.le a b → AC.le (.nam y a) (.nam y b)
  | bare {y a b} : AC.le a b → AC.le (.nam y a) b
def AC.leL : List AC → List AC → Prop
  | [], [] => True
  | a :: as, b :: bs => AC.le a b ∧ AC.leL as bs
  | _, _ => False
def St.le (s t : St) : Prop := (t.env.map (·.1)).Nodup ∧ (∀ k v, look k t.env = some v → ∃ u, look k s.env = some u ∧ AC.le u v) ∧ t.loc = [] ∧ s.K = t.K

def seqK (k : St → Prop) (Q : Exit → St → Prop) : Exit → St → Prop
  | .normal => k
  | .exit id => Q (.exit id)
  | .goto l => Q (.goto l)
  | .ret => Q .ret
  | .panic c => Q (.panic c)
  | .outgrown => Q .outgrown
def blockK (id : Nat) (Q : Exit → St → Prop) : Exit → St → Prop
  | .normal => Q .normal
  | .exit id' => if id' = id then Q .normal else Q (.exit id')
  | .goto l => Q (.goto l)
  | .ret => Q .ret
  | .panic c => Q (.panic c)
  | .outgrown => Q .outgrown
/-- A round's end: the relation again, at a smaller number. -/
def roundK (I : Nat → St → Prop) (n c : Nat) (s' : St) : Prop := ∃ n', n' < n ∧ ∃ s2, (s'.trunc c).le s2 ∧ I n' s2

def noTk (fi : FI) : Operand → Bool
  | .tmp t => !(fi.tk.elem t)
  | _ => true

/-- Does the operation only read? -/
def floats (fi : FI) (dst : Option Nat) : Go.Op → Bool
  | .move _ => !(fi.takes dst)
  | .assign x => noTk fi x
  | .pick _ _ _ => true
  | .build _ ps => (ps.toList.map (·.2)).all (noTk fi)
  | .buildSlice _ _ ps => (ps.toList.map (·.2)).all (noTk fi)
  | .load _ _ => !(fi.takes dst)
  | .nilCheck _ => true
  | .binOp _ _ _ y _ => !(isNilC y)
  | .unOp _ _ _ => true
  | .convert _ _ _ => true
  | .makeFunc (.func _) _ _ => true
  | .makeSlice _ _ _ => true
  | .slice _ _ _ _ _ => true
  | .fieldAddr _ _ _ => true
  | .field _ _ _ => true
  | .indexAddr _ _ _ => true
  | .index _ _ _ => true
  | .extract _ _ => !(fi.takes dst)
  | _ => false

/-- Does it read boxes? -/
def loads : Go.Op → Bool
  | .load _ _ => true
  | _ => false

/-- 'len': its operand and that operand's type. -/
def isLen : Go.Op → Option (Operand × TypeId)
  | .call ⟨.builtin .len, args, ts⟩ => match args.toList, ts.toList with
    | [x], t :: _ => some (x, t)
    | _, _ => none
  | _ => none
def isCall : Go.Op → Bool
  | .call _ => true
  | _ => false
def wLenD (t : TD) (v : AC) (k : AC → Prop) : Prop :=
  match t, v with
  | .str, .str s => k (.int .i64 s.length)
  | .slice _, .sl _ n _ => k (.int .i64 n)
  | _, _ => False
/-- A call whose result is told ahead: whatever the boxes are. -/
def qOk (fi : FI) (dst : Option Nat) : Go.Op → Bool
  | .call ⟨.value _, args, _⟩ => match dst with
    | some d => fi.qs.elem d && args.toList.all (noTk fi)
    | none => false
  | _ => false
def isQ (fi : FI) (dst : Option Nat) : Go.Op → Option (Operand × List Operand × AC)
  | .call ⟨.value f, args, ts⟩ => if qOk fi dst (.call ⟨.value f, args, ts⟩) then some (f, args.toList, (look (dst.getD 0) fi.qr).getD .undef) else none
  | _ => none
def quietK (P : Program) (gd : Option Bool) (f : FuncId) (args : List AC) (r : AC) : Prop := gOk gd → ∀ K, Ct P f args K r K
def wQ (P : Program) (gd : Option Bool) (f : Operand) (args : List Operand) (r : AC) (st : St) (k : AC → St → Prop) : Prop :=
  un gd (st.ev f) fun u => match u with
    | .fn g caps => wXs gd st args fun vs => quietK P gd g (vs ++ caps) r ∧ k r st
    | _ => False
/-- An operation, where 'len' tells nothing. -/
def wDoD (P : Program) (fi : FI) (m : Bool) (gd : Option Bool) (dst : Option Nat) (op : Go.Op) (st : St) (k : AC → St → Prop) : Prop :=
  match isLen op with
  | some (x, t) => un gd (st.ev x) fun v => wLenD (tdOf P t) v fun v => k v st
  | none => match isQ fi dst op with
    | some (f, args, r) => wQ P gd f args r st k
    | none => wDo P fi m gd dst op st k
/-- A load that takes. -/
def isTL (fi : FI) (dst : Option Nat) : Go.Op → Bool
  | .load _ _ => fi.takes dst
  | _ => false
def noUndef : AC → Bool
  | .agg cs => cs.all fun c => match c with
    | .undef => false
    | _ => true
  | .undef => false
  | _ => true
def ldTy : Go.Op → TypeId
  | .load t _ => t
  | _ => 0
def isAggV : AC → Bool
  | .agg _ => true
  | _ => false
/-- What is asked behind an operation of a region that draws its order. -/
def tlOk (P : Program) (fi : FI) (dst : Option Nat) (op : Go.Op) (v : AC) : Prop := isTL fi dst op = true → noUndef v = true ∧ (isAggV v = false → P.cellsOf (ldTy op) = 1)
/-- An operation of a region that draws its order. kd: calls leave the boxes as they are. -/
def wOpD (P : Program) (fi : FI) (kd : Bool) (ops : List Oper) (o : Oper) (k : St → Prop) (st : St) : Prop :=
  match o.guard with
  | none => wDoD P fi true none o.dst o.op st fun v s => ((kd = true → isCall o.op = true → s.K = st.K) ∧ tlOk P fi o.dst o.op v) ∧ k (s.put fi o.dst v)
  | some (g, want) => match gVal st ops g want with
    | some b => wDoD P fi false (some b) o.dst o.op st fun v s => ((kd = true → isCall o.op = true → s.K = st.K) ∧ tlOk P fi o.dst o.op v) ∧ k (s.put fi o.dst (.opt b v))
    | none => False
def wOpsD (P : Program) (fi : FI) (kd : Bool) (ops : List Oper) : List Oper → (St → Prop) → St → Prop
  | [], k, st => k st
  | o :: rest, k, st => wOpD P fi kd ops o (wOpsD P fi kd ops rest k) st

def tmpOf : Operand → List Nat
  | .tmp t => [t]
  | _ => []
/-- The slots that an operation looks at. -/
def reads (o : Oper) : List Nat := o.op.operands.toList.flatMap tmpOf
def looks (ops : List Oper) (o : Oper) : List Nat := reads o ++ match o.guard with
  | some (g, _) => ((ops[g]?).bind (·.dst)).toList
  | none => []
def floatsD (fi : FI) (o : Oper) : Bool := floats fi o.dst o.op || (isLen o.op).isSome || qOk fi o.dst o.op
/-- Does it leave the boxes as they are? -/
def calm (fi : FI) (kd : Bool) (o : Oper) : Bool := floatsD fi o || (kd && isCall o.op)

/-- x only reads, and y does not touch what x reads. -/
def apart1 (fi : FI) (kd : Bool) (ops : List Oper) (x y : Oper) : Bool :=
  floatsD fi x && (!loads x.op || calm fi kd y) && (looks ops x).all (fun t => floatsD fi y || !(reads y).elem t) &&
    (match x.dst with
      | some d => !(looks ops y).elem d && y.dst != some d
      | none => true) &&
    (match y.dst with
      | some d => !(looks ops x).elem d
      | none => true)

/-- What rests on slots alone, and changes no more. -/
def slotOp : Go.Op → Bool
  | .move _ => true
  | .assign _ => true
  | .build _ _ => true
  | .buildSlice _ _ _ => true
  | .call ⟨.builtin .append, _, _⟩ => true
  | _ => false
def apartD (ops : List Oper) (x y : Oper) : Bool :=
  slotOp x.op && x.guard.isNone && (looks ops x).all (fun t => !(looks ops y).elem t && y.dst != some t) &&
    (match x.dst with
      | some d => !(looks ops y).elem d && y.dst != some d
      | none => true)
/-- A load, and what makes a new box behind it. -/
def apartL (fi : FI) (x y : Oper) : Bool := match x.op, y.op, x.dst, y.dst with
  | .load _ p, .alloc _, some d, some e => x.guard.isNone && y.guard.isNone && !fi.takes (some d) && d != e && !(tmpOf p).elem e
  | _, _, _, _ => false
/-- A load that takes, and one that does not behind it. -/
def apartT (fi : FI) (x y : Oper) : Bool := match x.op, y.op, x.dst, y.dst with
  | .load _ p, .load _ q, some d, some e => x.guard.isNone && y.guard.isNone && fi.takes (some d) && !fi.takes (some e) && d != e && !(tmpOf q).elem d && !(tmpOf p).elem e
  | _, _, _, _ => false
def swapOk (fi : FI) (kd : Bool) (ops : List Oper) (x y : Oper) : Bool := apart1 fi kd ops x y || apart1 fi kd ops y x || apartD ops x y || apartD ops y x || apartL fi x y || apartT fi x y
/-- What an operation comes after, as bits: its edges, and what these come after. -/
def maskOf (acc : List Nat) (es : List Edge) : Nat := es.foldr (fun e m => if Region.binds .any e then (m ||| (2 ^ e.on)) ||| acc.getD e.on 0 else m) 0
def masks : List Oper → List Nat → List Nat
  | [], acc => acc
  | o :: os, acc => masks os (acc ++ [maskOf acc o.after.toList])
/-- All that no edges put in order may be exchanged. -/
def drawOk (fi : FI) (kd : Bool) (ops : List Oper) : Bool := (List.range ops.length).all fun i => match ops[i]? with
  | some o => o.after.toList.all (fun e => !Region.binds .any e || decide (e.on < i)) && (List.range i).all fun j =>
      ((masks ops []).getD i 0).testBit j || match ops[j]? with
        | some x => swapOk fi kd ops x o
        | none => true
  | none => true

/-- Behind a region that draws its order. -/
def drawE (k : St → Prop) (s : St) : Prop := (s.env.map (·.1)).Nodup ∧ (s.loc.map (·.1)).Nodup ∧ k s
/-- What needs no promise stays. -/
def keepS : List (Nat × AC) → List (Nat × AC)
  | [] => []
  | (j, v) :: r => if scalar v then (j, v) :: keepS r else keepS r
/-- Behind a region whose calls only looked at what slots alone hold. -/
def noK (K : List (List (List AC))) : List (List (List AC)) := K.map fun _ => []
def lentE (st : St) (env1 : List (Nat × AC)) (k : St → Prop) (s : St) : Prop := s.K = noK st.K ∧ backE st.env env1 s.env fun e => k { env := e, loc := keepS s.loc, K := st.K }
/-- A region: in the text's order, or in any. -/
def wRun (P : Program) (fi : FI) (ops : Array Oper) (d : Bool) (k : St → Prop) (st : St) : Prop :=
  (d = true → P.follows .mixedOrders = true ∧ ∃ kd qs qr, drawOk { fi with es := false, bw := [], qs := qs } kd ops.toList = true ∧
      wOpsD P { fi with es := false, bw := [], qs := qs, qr := qr } kd ops.toList ops.toList (drawE k) st) ∧
    (d = false → wOps P fi true ops.toList ops.toList k st)
/-- What stays when the promises are let go: of slots, of boxes. -/
def thawE : List (Nat × AC) → List (Nat × AC)
  | [] => []
  | (j, v) :: r => match v with
    | .bool b => (j, .bool b) :: thawE r
    | .int k n => (j, .int k n) :: thawE r
    | .str s => (j, .str s) :: thawE r
    | .ptr u i o => (j, .ptr u i o) :: thawE r
    | _ => thawE r
def thawC : AC → AC
  | .sl (.of e) n cs => if cs.all scalar then .sl (.ex e) n cs else .undef
  | .bool b => .bool b
  | .int k n => .int k n
  | .str s => .str s
  | _ => .undef
def thaw (st : St) : St := { env := thawE st.env, loc := [], K := st.K.map fun f => f.map fun c => c.map thawC }
def noOwn : AC → Bool
  | .sl .no _ _ => true
  | .bool _ => true
  | .int _ _ => true
  | .str _ => true
  | _ => false
def wRegion (P : Program) (fi : FI) (id : Nat) (ops : Array Oper) (d : Bool) (k : St → Prop) (st : St) : Prop :=
  if fi.th.elem id then st.K.length = 1 ∧ wRun P fi ops d k (thaw st)
  else if fi.xr.elem id then nameX st.K st.env fun env1 =>
      wRun P { fi with es := false, bw := [] } ops d (lentE st env1 k) { env := env1, loc := [], K := noK st.K }
  else if fi.es then nameE st.env fun env1 => wRun P fi ops d k { env := env1, loc := [], K := st.K }
  else wRun P fi ops d k { st with loc := [] }

def wC (P : Program) (fi : FI) : Code → (Exit → St → Prop) → St → Prop
  | .skip, Q, st => Q .normal st
  | .region id ops d, Q, st => wRegion P fi id ops d (Q .normal) st
  | .seq a b, Q, st => wC P fi a (seqK (wC P fi b Q) Q) st
  | .cond c a b, Q, st => match st.ev c with
    | .bool v => (v = true → wC P fi a Q st) ∧ (v = false → wC P fi b Q st)
    | _ => False
  | .block id c, Q, st => wC P fi c (blockK id Q) st
  | .loop c, Q, st => ∃ (I : Nat → St → Prop) (n : Nat) (s0 : St), st.le s0 ∧ I n s0 ∧ ∀ n s, I n s → wC P fi c (seqK (roundK I n (s.K.headD []).length) Q) s
  | .exit id, Q, st => Q (.exit id) st
  | .ret, Q, st => Q .ret st
  | .rangeFunc .., _, _ => False
  | .scope _, _, _ => False
  | .label _, _, _ => False
  | .goto _, _, _ => False
  | .refuse _, _, _ => False

/-! Entry and exit of a function. -/
def argEnv (k : Nat) : List AC → List (Nat × AC)
  | [] => []
  | v :: vs => (k, mapV (liftP 1) v) :: argEnv (k + 1) vs

def low1 : AC → Option AC
  | .agg cs => (cs.mapM (lowC 1)).map .agg
  | .nam _ (.agg cs) => (cs.mapM (lowC 1)).map .agg
  | v => lowC 1 v

/-- One result, and the state behind its reading. -/
def resStep (P : Program) (st : St) : ResultVar → Option (AC × St)
  | .tmp t => some (st.get t, st.weak t)
  | .cell a t => match st.get a, tdOf P t with
    | _, .bad => none
    | .ptr 0 i 0, _ => match getBox st.K 0 i with
      | some cells => if cells.length = P.cellsOf t ∧ 0 < P.cellsOf t then some (mkVal P t cells, { st with K := setBox st.K 0 i (shareL cells) }) else none
      | none => none
    | _, _ => none

def resVs (P : Program) : St → List ResultVar → Option (List AC × St)
  | st, [] => some ([], st)
  | st, x :: xs => match resStep P st x with
    | some (v, st') => match resVs P st' xs with
      | some (vs, st'') => some (v :: vs, st'')
      | none => none
    | none => none

def lows : List AC → Option (List AC)
  | [] => some []
  | v :: vs => match low1 v, lows vs with
    | some v, some vs => some (v :: vs)
    | _, _ => none

/-- What the function hands back at a state is r, over the boxes K'. -/
def retOk (P : Program) (rs : List ResultVar) (st : St) (r : AC) (K' : List (List (List AC))) : Prop :=
  match resVs P st rs with
  | some (vs, st') => st'.K.tail = K' ∧ match lows vs with
    | some [v] => AC.le v r
    | some vs => ∃ ws, r = .tup ws ∧ AC.leL vs ws
    | none => False
  | none => False

/-- The same of a function that writes what slot 0 alone holds, under the name y. -/
def retB (P : Program) (rs : List ResultVar) (y : Value) (r : AC) (K' : List (List (List AC))) (back : AC) (st : St) : Prop :=
  match resVs P st rs with
  | some (vs, st') => st'.K.tail = K' ∧ (match lows vs with
    | some [v] => AC.le v r
    | some vs => ∃ ws, r = .tup ws ∧ AC.leL vs ws
    | none => False) ∧ match look 0 st'.env with
      | some (.nam y' v) => y' = y ∧ match low1 v with
        | some v' => AC.le v' back
        | none => False
      | _ => False
  | none => False
def retQB (P : Program) (rs : List ResultVar) (y : Value) (r : AC) (K' : List (List (List AC))) (back : AC) : Exit → St → Prop
  | .normal, st => retB P rs y r K' back st
  | .ret, st => retB P rs y r K' back st
  | _, _ => False

def retQ (P : Program) (rs : List ResultVar) (r : AC) (K' : List (List (List AC))) : Exit → St → Prop
  | .normal, st => retOk P rs st r K'
  | .ret, st => retOk P rs st r K'
  | _, _ => False

section
variable {P : Program} {fi : FI} {Q : Exit → St → Prop} {st : St}
theorem wDo_move {m : Bool} {gd : Option Bool} {dst : Option Nat} {x : Operand} {k : AC → St → Prop} : wDo P fi m gd dst (.move x) st k = wD_move P fi m gd dst x st k := rfl
theorem wDo_assign {m : Bool} {gd : Option Bool} {dst : Option Nat} {x : Operand} {k : AC → St → Prop} : wDo P fi m gd dst (.assign x) st k = wD_assign P fi m gd dst x st k := rfl
theorem wDo_pick {m : Bool} {gd : Option Bool} {dst : Option Nat} {c a b : Operand} {k : AC → St → Prop} : wDo P fi m gd dst (.pick c a b) st k = wD_pick P fi m gd dst c a b st k := rfl
theorem wDo_alloc {m : Bool} {gd : Option Bool} {dst : Option Nat} {t : TypeId} {k : AC → St → Prop} : wDo P fi m gd dst (.alloc t) st k = wD_alloc P fi m gd dst t st k := rfl
theorem wDo_box {m : Bool} {gd : Option Bool} {dst : Option Nat} {t : TypeId} {x : Operand} {k : AC → St → Prop} : wDo P fi m gd dst (.box t x) st k = wD_box P fi m gd dst t x st k := rfl
theorem wDo_build {m : Bool} {gd : Option Bool} {dst : Option Nat} {t : TypeId} {parts : Array (Nat × Operand)} {k : AC → St → Prop} : wDo P fi m gd dst (.build t parts) st k = wD_build P fi m gd dst t parts st k := rfl
theorem wDo_buildSlice {m : Bool} {gd : Option Bool} {dst : Option Nat} {t : TypeId} {len : Nat} {parts : Array (Nat × Operand)} {k : AC → St → Prop} : wDo P fi m gd dst (.buildSlice t len parts) st k = wD_buildSlice P fi m gd dst t len parts st k := rfl
theorem wDo_load {m : Bool} {gd : Option Bool} {dst : Option Nat} {t : TypeId} {x : Operand} {k : AC → St → Prop} : wDo P fi m gd dst (.load t x) st k = wD_load P fi m gd dst t x st k := rfl
theorem wDo_store {m : Bool} {gd : Option Bool} {dst : Option Nat} {t : TypeId} {a x : Operand} {k : AC → St → Prop} : wDo P fi m gd dst (.store t a x) st k = wD_store P fi m gd dst t a x st k := rfl
theorem wDo_nilCheck {m : Bool} {gd : Option Bool} {dst : Option Nat} {x : Operand} {k : AC → St → Prop} : wDo P fi m gd dst (.nilCheck x) st k = wD_nilCheck P fi m gd dst x st k := rfl
theorem wDo_binOp {m : Bool} {gd : Option Bool} {dst : Option Nat} {op : BinOp} {t : TypeId} {x y : Operand} {t' : TypeId} {k : AC → St → Prop} : wDo P fi m gd dst (.binOp op t x y t') st k = wD_binOp P fi m gd dst op t x y t' st k := rfl
theorem wDo_unOp {m : Bool} {gd : Option Bool} {dst : Option Nat} {op : UnOp} {t : TypeId} {x : Operand} {k : AC → St → Prop} : wDo P fi m gd dst (.unOp op t x) st k = wD_unOp P fi m gd dst op t x st k := rfl
theorem wDo_convert {m : Bool} {gd : Option Bool} {dst : Option Nat} {src tgt : TypeId} {x : Operand} {k : AC → St → Prop} : wDo P fi m gd dst (.convert src tgt x) st k = wD_convert P fi m gd dst src tgt x st k := rfl
theorem wDo_makeFunc {m : Bool} {gd : Option Bool} {dst : Option Nat} {f : FuncId} {first captured : Array Operand} {k : AC → St → Prop} : wDo P fi m gd dst (.makeFunc (.func f) first captured) st k = wD_makeFunc P fi m gd dst f first captured st k := rfl
theorem wDo_makeSlice {m : Bool} {gd : Option Bool} {dst : Option Nat} {t : TypeId} {len cap : Operand} {k : AC → St → Prop} : wDo P fi m gd dst (.makeSlice t len cap) st k = wD_makeSlice P fi m gd dst t len cap st k := rfl
theorem wDo_slice {m : Bool} {gd : Option Bool} {dst : Option Nat} {t : TypeId} {x : Operand} {lo hi mx : Option Operand} {k : AC → St → Prop} : wDo P fi m gd dst (.slice t x lo hi mx) st k = wD_slice P fi m gd dst t x lo hi mx st k := rfl
theorem wDo_fieldAddr {m : Bool} {gd : Option Bool} {dst : Option Nat} {s : TypeId} {x : Operand} {f : Nat} {k : AC → St → Prop} : wDo P fi m gd dst (.fieldAddr s x f) st k = wD_fieldAddr P fi m gd dst s x f st k := rfl
theorem wDo_field {m : Bool} {gd : Option Bool} {dst : Option Nat} {s : TypeId} {x : Operand} {f : Nat} {k : AC → St → Prop} : wDo P fi m gd dst (.field s x f) st k = wD_field P fi m gd dst s x f st k := rfl
theorem wDo_indexAddr {m : Bool} {gd : Option Bool} {dst : Option Nat} {t : TypeId} {x ix : Operand} {k : AC → St → Prop} : wDo P fi m gd dst (.indexAddr t x ix) st k = wD_indexAddr P fi m gd dst t x ix st k := rfl
theorem wDo_index {m : Bool} {gd : Option Bool} {dst : Option Nat} {t : TypeId} {x ix : Operand} {k : AC → St → Prop} : wDo P fi m gd dst (.index t x ix) st k = wD_index P fi m gd dst t x ix st k := rfl
theorem wDo_extract {m : Bool} {gd : Option Bool} {dst : Option Nat} {x : Operand} {i : Nat} {k : AC → St → Prop} : wDo P fi m gd dst (.extract x i) st k = wD_extract P fi m gd dst x i st k := rfl
theorem wDo_call {m : Bool} {gd : Option Bool} {dst : Option Nat} {c : Call} {k : AC → St → Prop} : wDo P fi m gd dst (.call c) st k = wD_call P fi m gd dst c st k := rfl
theorem wOp_none {m : Bool} {ops : List Oper} {k : St → Prop} {dst : Option Nat} {op : Go.Op} {ty : TypeId} {pos : String} {after : Array Edge} :
    wOp P fi m ops { dst := dst, op := op, type := ty, pos := pos, after := after, guard := none } k st = wDo P fi m none dst op st (putK fi dst k) := rfl
theorem wOp_some {m : Bool} {ops : List Oper} {k : St → Prop} {dst : Option Nat} {op : Go.Op} {ty : TypeId} {pos : String} {after : Array Edge} {g : Nat} {want b : Bool} (h : gVal st ops g want = some b) :
    wOp P fi m ops { dst := dst, op := op, type := ty, pos := pos, after := after, guard := some (g, want) } k st = wDo P fi false (some b) dst op st (optK fi dst b k) := by simp only [wOp, h]
theorem wC_skip : wC P fi .skip Q st = Q .normal st := rfl
theorem wRun_false {ops : Array Oper} {k : St → Prop} : wRun P fi ops false k st = wOps P fi true ops.toList ops.toList k st := by simp [wRun]
theorem wC_region {id : Nat} {ops : Array Oper} {d : Bool} : wC P fi (.region id ops d) Q st = wRegion P fi id ops d (Q .normal) st := rfl
theorem wC_seq {a b : Code} : wC P fi (.seq a b) Q st = wC P fi a (seqK (wC P fi b Q) Q) st := rfl
theorem wC_cond {c : Operand} {a b : Code} {v : Bool} (h : st.ev c = .bool v) : wC P fi (.cond c a b) Q st = ((v = true → wC P fi a Q st) ∧ (v = false → wC P fi b Q st)) := by simp only [wC, h]
theorem wC_block {id : Nat} {c : Code} : wC P fi (.block id c) Q st = wC P fi c (blockK id Q) st := rfl
theorem wC_exit {id : Nat} : wC P fi (.exit id) Q st = Q (.exit id) st := rfl
theorem wC_ret : wC P fi .ret Q st = Q .ret st := rfl
theorem wOps_nil {m : Bool} {ops : List Oper} {k : St → Prop} : wOps P fi m ops [] k st = k st := rfl
theorem wOps_cons {m : Bool} {ops rest : List Oper} {o : Oper} {k : St → Prop} : wOps P fi m ops (o :: rest) k st = wOp P fi m ops o (wOps P fi m ops rest k) st := rfl
theorem seqK_normal {k : St → Prop} : seqK k Q .normal = k := rfl
theorem seqK_ret {k : St → Prop} : seqK k Q .ret = Q .ret := rfl
theorem seqK_exit {k : St → Prop} {id : Nat} : seqK k Q (.exit id) = Q (.exit id) := rfl
theorem blockK_normal {id : Nat} : blockK id Q .normal = Q .normal := rfl
theorem blockK_ret {id : Nat} : blockK id Q .ret = Q .ret := rfl
theorem blockK_exit {id i : Nat} : blockK id Q (.exit i) = if i = id then Q .normal else Q (.exit i) := rfl
theorem callK_of {gd : Option Bool} {f : FuncId} {args : List AC} {k : AC → St → Prop} {r : AC} {K' : List (List (List AC))} (h : Ct P f args st.K r K') (hk : k r { st with K := K' }) :
    callK P true gd f args k st := ⟨r, K', h, hk⟩
theorem callK_still {gd : Option Bool} {f : FuncId} {args : List AC} {k : AC → St → Prop} {r : AC} (h : gOk gd → Ct P f args st.K r st.K) (hk : k r st) :
    callK P false gd f args k st := ⟨r, h, hk⟩
attribute [simp] thawE thawC thaw unN lendV noK isNilC nilCmp wC_skip wC_region wRegion wRun_false isX cellX scalar lendS lendL closed closedL toEx toExL unx unxL shareO lenOf Ow.isEx appOw wBorrow St.setAt FI.keeps wC_seq wC_block wC_exit wC_ret wOps_nil wOps_cons seqK_normal seqK_ret seqK_exit blockK_normal blockK_ret blockK_exit putK optK wOp_none
  wDo_move wDo_assign wDo_pick wDo_alloc wDo_box wDo_build wDo_buildSlice wDo_load wDo_store wDo_nilCheck wDo_binOp wDo_unOp wDo_convert wDo_makeFunc wDo_makeSlice wDo_slice wDo_fieldAddr wDo_field wDo_indexAddr wDo_index wDo_extract wDo_call
  wD_move wD_assign wD_pick wD_alloc wD_box wD_build wD_buildSlice wD_load wKeep wD_store wD_nilCheck wD_binOp wD_unOp wD_convert wD_makeFunc wD_makeSlice wD_slice wD_fieldAddr wD_field wD_indexAddr wD_index wD_extract wD_call
  wCall wBuiltin wLen wAppend wAppendS zeroLen wT un argEnv mapC mapV liftP St.ev St.get St.put St.weak look setE FI.isVar FI.takes wBin intBin strBin ofV share shareL gOk cellsOfV getBox setBox mkVal goodTy isUndef storable flat putCells lowC lowP fillC isPtr
end

end Go.Proofs.YtkpdlbidadcdjaaDoor.Abs
